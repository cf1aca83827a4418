/- Texts of the claim, merged by a program; what the statement does not reach is left out. -/
import Derived.Test.YtiflaadeikaghaaGreatBPodcodecMissing2
import Derived.KernelRfl
import Derived.OpenShut
import Derived.ChangeArms
import Derived.ChangeSlices
import Derived.ChangeOld
import Derived.Carry
import GoSem.ClaimJoined

section
/-
  Runs along a trace, over views: operations, regions, code, calls, loops' rounds.
-/
namespace Go.Pv
def Seen (o : Option Ob) (rows : List (List PV)) : Prop := ∃ ob, o = some ob ∧ ViewOK ob.sz ob.cells rows
theorem Q3q {ob : Ob} {rows : List (List PV)} (h : ViewOK ob.sz ob.cells rows) : Seen (some ob) rows := ⟨ob, rfl, h⟩
def putV (vw : Views) (cut : List Nat) (new : Views) : Views := new ++ vw.filter fun x => !(has cut x.1)
theorem Qzk {vw : Views} {cut : List Nat} {id : Nat} {rows : List (List PV)} (h : look (vw.filter fun x => !(has cut x.1)) id = some rows) : look vw id = some rows ∧ has cut id = false := by
 induction vw with
 | nil => cases h
 | cons x r ih =>
  obtain ⟨k, rs⟩ := x
  simp only [List.filter_cons] at h
  cases hc : has cut k with
  | true =>
   rw [hc] at h
   simp only [Bool.not_true, Bool.false_eq_true, if_false] at h
   obtain ⟨h1, h2⟩ := ih h
   refine ⟨?_, h2⟩
   simp only [look]
   cases c : Nat.beq k id with
   | true =>
    have := Nat.eq_of_beq_eq_true c
    subst this
    rw [hc] at h2
    cases h2
   | false => exact h1
  | false =>
   rw [hc] at h
   simp only [Bool.not_false, if_true, look] at h ⊢
   cases c : Nat.beq k id with
   | true =>
    rw [c] at h
    have := Nat.eq_of_beq_eq_true c
    subst this
    exact ⟨h, hc⟩
   | false =>
    rw [c] at h
    exact ih h
theorem Qxr {l : List Nat} {id : Nat} (h : has l id = false) : id ∉ l := by
  induction l with
  | nil => exact List.not_mem_nil
  | cons k r ih =>
    simp only [has] at h
    cases c : Nat.beq k id with
    | true => rw [c] at h; cases h
    | false =>
      rw [c] at h
      simp only [cond_false] at h
      intro hm
      rcases List.mem_cons.1 hm with rfl | hm
      · simp at c
      · exact ih h hm
theorem Qis {vw new : Views} {cut : List Nat} {id : Nat} {rows : List (List PV)} (h : look (putV vw cut new) id = some rows) : look new id = some rows ∨ (look vw id = some rows ∧ id ∉ cut) := by
 unfold putV at h
 rw [Qto] at h
 cases hn : look new id with
 | some r => rw [hn] at h; exact .inl h
 | none =>
  rw [hn] at h
  obtain ⟨h1, h2⟩ := Qzk h
  exact .inr ⟨h1, Qxr h2⟩
theorem Qzc {α : Type} {l : List (Nat × α)} {id : Nat} {x : α} (h : look l id = some x) : (id, x) ∈ l := by
 induction l with
 | nil => cases h
 | cons y r ih =>
  obtain ⟨k, z⟩ := y
  simp only [look] at h
  cases c : Nat.beq k id with
  | true =>
   rw [c] at h
   have := Nat.eq_of_beq_eq_true c
   subst this
   simp only [cond_true, Option.some.injEq] at h
   subst h
   exact List.mem_cons_self
  | false =>
   rw [c] at h
   exact List.mem_cons_of_mem _ (ih h)
def Turned (H : Nat → Option Ob) (vw : Views) (e : EV) : Prop := VOK (upH H e.eff.hw) (putV vw e.cut e.new)
theorem Q13a {ws : List (Nat × Option Ob)} {H : Nat → Option Ob} {id : Nat} {o : Option Ob} (hn : (ws.map (·.1)).Nodup) (h : (id, o) ∈ ws) : upH H ws id = o := by
  induction ws generalizing H with
  | nil => cases h
  | cons x r ih =>
    obtain ⟨k, z⟩ := x
    simp only [List.map_cons, List.nodup_cons] at hn
    rw [upH]
    rcases List.mem_cons.1 h with e | h
    · injection e with e1 e2
      subst e1 e2
      rw [Q6g (fun y hy e => hn.1 (by rw [← e]; exact List.mem_map_of_mem hy))]
      simp
    · exact ih hn.2 h
def nodupB : List Nat → Bool
 | [] => true
 | k :: r => !(has r k) && nodupB r
theorem Qx9 : ∀ {l : List Nat}, nodupB l = true → l.Nodup
 | [], _ => List.nodup_nil
 | k :: r, h => by
  simp only [nodupB, Bool.and_eq_true, Bool.not_eq_true'] at h
  exact List.nodup_cons.2 ⟨Qxr h.1, Qx9 h.2⟩
theorem Qy4 {H : Nat → Option Ob} : ∀ (l : List Nat) (cl : List (Nat × Option Ob)), shut H l = some cl → ∀ id o, (id, o) ∈ cl → ∃ ob ob', H id = some ob ∧ o = some ob' ∧ ob'.sz = ob.sz ∧ ob'.cells = ob.cells
  | [], cl, h, id, o, hm => by
    simp only [shut, Option.some.injEq] at h
    subst h
    cases hm
  | k :: r, cl, h, id, o, hm => by
    simp only [shut] at h
    obtain ⟨ob, hob, h⟩ := Qo h
    obtain ⟨m, hm', h⟩ := Qo h
    simp only [Option.some.injEq] at h
    subst h
    rcases List.mem_cons.1 hm with e | hm
    · injection e with e1 e2
      subst e1 e2
      exact ⟨ob, _, hob, rfl, rfl, rfl⟩
    · exact Qy4 r m hm' id o hm
def Q18o (H : Nat → Option Ob) (vw : Views) (fr : Nat) (byRef : Bool) (f : Nat) (args : List PV) (az : List Ans) : Option EV :=
  (Q1f2 H vw fr byRef f args az).bind fun e => bif nodupB (e.eff.hw.map (·.1)) then some e else none
theorem Qvd {G : Nat → Option Fun} {H : Nat → Option Ob} {vw : Views} (hv : VOK H vw) {fr : Nat} {byRef : Bool} {f : Nat} {args : List PV} {az : List Ans} {e : EV} (h : Q18o H vw fr byRef f args az = some e) (hm : Met e.owed) (hq : Told G e.asked) : Qen (lim G) H fr byRef f args = some e.eff ∧ Turned H vw e := by
  unfold Q18o at h
  obtain ⟨e', h0, h'⟩ := Qo h
  clear h
  cases hnd : nodupB (e'.eff.hw.map (·.1)) with
  | false => rw [hnd] at h'; cases h'
  | true =>
  rw [hnd] at h'
  simp only [cond_true, Option.some.injEq] at h'
  subst h'
  have hnd := Qx9 hnd
  unfold Q1f2 at h0
  unfold Qen
  obtain ⟨y, hy, h⟩ := Qo h0
  clear h0
  obtain ⟨z, hz, h⟩ := Qo h
  simp only at h
  cases hd : disj (y.1.2.2 ++ z.1.2.2) z.1.2.1 with
  | false => rw [hd] at h; cases h
  | true =>
    rw [hd] at h
    simp only [cond_true] at h
    cases az with
    | nil => cases h
    | cons a az' =>
      obtain ⟨r, avw⟩ := a
      cases r with
      | st _ _ => cases h
      | ret v hh =>
        simp only at h
        cases hb : (Nat.ble z.1.2.1.length hh.length && Nat.ble (hh.length - z.1.2.1.length) 64) with
        | false => rw [hb] at h; cases h
        | true =>
          rw [hb] at h
          simp only [cond_true] at h
          obtain ⟨v', hv', h⟩ := Qo h
          obtain ⟨ws, hws, h⟩ := Qo h
          have key : ∀ (hy' : Met y.2) (hz' : Met z.2) (hw' : Met ws.2.1) (ht : Q6 G (.call f y.1.1 z.1.1) (.ret v hh)) (E : Eff),
              (bif flat 8 v && hh.all (fun ob => ob.cells.all (flat 8)) then some ⟨v', ws.1, z.1.2.1 ++ (y.1.2.2 ++ z.1.2.2)⟩ else (shut H (y.1.2.2 ++ z.1.2.2)).bind fun cl => some ⟨v', ws.1 ++ cl, z.1.2.1 ++ (y.1.2.2 ++ z.1.2.2)⟩) = some E →
              ((Q56 (pass H byRef 8) args []).bind fun y => (Q33 H false false 16 0 y.2.1).bind fun z =>
                let ids := z.2.1
                let lent := y.2.2 ++ z.2.2
                bif disj lent ids then
                  (lim G (.call f y.1 z.1)).bind fun r =>
                    match r with
                    | .ret v h =>
                      bif Nat.ble ids.length h.length && Nat.ble (h.length - ids.length) 64 then
                        (back (ren ids fr) 8 v).bind fun v' => (Q88 (ren ids fr) 0 h).bind fun ws =>
                          bif flat 8 v && h.all (fun ob => ob.cells.all (flat 8)) then some ⟨v', ws, ids ++ lent⟩
                          else (shut H lent).bind fun cl => some ⟨v', ws ++ cl, ids ++ lent⟩
                      else none
                    | _ => none
                else none) = some E := by
            intro hy' hz' hw' ht E hE
            rw [Q3h (Q6o hv 8) _ _ y hy hy', Option.bind_some, Q4h hv 16 _ _ z hz hz', Option.bind_some]
            simp only
            rw [hd]
            simp only [cond_true]
            rw [Q1ey ht, Option.bind_some]
            simp only
            rw [hb]
            simp only [cond_true]
            rw [hv', Option.bind_some, Q7f hh 0 ws hws hw', Option.bind_some]
            exact hE
          have turn : ∀ (cl : List (Nat × Option Ob)) (hcl : ∀ id o, (id, o) ∈ cl → ∃ ob ob', H id = some ob ∧ o = some ob' ∧ ob'.sz = ob.sz ∧ ob'.cells = ob.cells) (hn : ((ws.1 ++ cl).map (·.1)).Nodup) (hw' : Met ws.2.1) , VOK (upH H (ws.1 ++ cl)) (putV vw (ws.1.map (·.1)) ws.2.2) := by
            intro cl hcl hn hw' id rows hl
            rcases Qis hl with hl | ⟨hl, hc⟩
            · obtain ⟨ob, hob, hok⟩ := Q78 hh 0 ws hws hw' id rows (Qzc hl)
              exact ⟨ob, Q13a hn (List.mem_append_left _ hob), hok⟩
            · obtain ⟨ob, hob, hok⟩ := hv id rows hl
              by_cases hx : ∃ o, (id, o) ∈ cl
              · obtain ⟨o, ho⟩ := hx
                obtain ⟨ob1, ob', h1, rfl, h2, h3⟩ := hcl id o ho
                rw [hob] at h1
                injection h1 with h1
                subst h1
                refine ⟨ob', Q13a hn (List.mem_append_right _ ho), ?_⟩
                rw [h2, h3]
                exact hok
              · refine ⟨ob, ?_, hok⟩
                rw [Q6g (fun y hy e => ?_)]
                · exact hob
                · rcases List.mem_append.1 hy with hy | hy
                  · exact hc (by rw [← e]; exact List.mem_map_of_mem hy)
                  · exact hx ⟨y.2, by rw [← e]; exact hy⟩
          cases hlent : y.1.2.2 ++ z.1.2.2 with
          | nil =>
            rw [hlent] at h
            simp only [Option.some.injEq] at h
            subst h
            simp only at hm hq hnd
            refine ⟨key hm.left hm.right.left hm.right.right (hq _ List.mem_cons_self) _ ?_, ?_⟩
            · rw [hlent]
              cases (flat 8 v && hh.all (fun ob => ob.cells.all (flat 8))) <;> simp [shut]
            · have := turn [] (fun _ _ h => by cases h) (by simpa using hnd) hm.right.right
              rw [List.append_nil] at this
              exact this
          | cons l0 lr =>
            rw [hlent] at h
            simp only at h
            cases hf : (flat 8 v && hh.all (fun ob => ob.cells.all (flat 8))) with
            | true =>
              rw [hf] at h
              simp only [cond_true, Option.some.injEq] at h
              subst h
              simp only at hm hq hnd
              refine ⟨key hm.left hm.right.left hm.right.right (hq _ List.mem_cons_self) _ ?_, ?_⟩
              · rw [hlent, hf]
                rfl
              · have := turn [] (fun _ _ h => by cases h) (by simpa using hnd) hm.right.right
                rw [List.append_nil] at this
                exact this
            | false =>
              rw [hf] at h
              simp only [cond_false] at h
              obtain ⟨cl, hcl, h⟩ := Qo h
              simp only [Option.some.injEq] at h
              subst h
              simp only at hm hq hnd
              refine ⟨key hm.left hm.right.left hm.right.right (hq _ List.mem_cons_self) _ ?_, ?_⟩
              · rw [hlent, hf]
                simp only [cond_false]
                rw [hcl, Option.bind_some]
              · exact turn cl (Qy4 _ _ hcl) hnd hm.right.right
def mute : Orc := fun _ => none
theorem Q10a {X : Orc} {e : Nat → PV} {H : Nat → Option Ob} {fr : Nat} {o : IOp} {x : Eff} (h : iop mute e H fr o = some x) : iop X e H fr o = some x := by
 cases o with
 | call b f xs =>
  simp only [iop] at h
  obtain ⟨t, _, h⟩ := Qo h
  unfold Qen at h
  obtain ⟨y, _, h⟩ := Qo h
  obtain ⟨z, _, h⟩ := Qo h
  simp only at h
  cases hd : disj (y.2.2 ++ z.2.2) z.2.1 with
  | false => rw [hd] at h; cases h
  | true =>
   rw [hd] at h
   simp only [cond_true] at h
   obtain ⟨_, h, _⟩ := Qo h
   cases h
 | _ => exact h
theorem Q177 {X : Orc} {e : Nat → PV} {H : Nat → Option Ob} {fr : Nat} {o : IOper} {x : Eff} (h : Q77 mute e H fr o = some x) : Q77 X e H fr o = some x := by
 unfold Q77 at h ⊢
 obtain ⟨w, hw, h⟩ := Qo h
 rw [hw, Option.bind_some]
 cases w with
 | true => exact Q10a h
 | false => exact h
def iopV (e : Nat → PV) (H : Nat → Option Ob) (vw : Views) (fr : Nat) (az : List Ans) : IOp → Option EV
  | .call byRef f args => (target (f.ev e) (evs e args)).bind fun t => Q18o H vw fr byRef t.1 t.2 az
  | o => (iop mute e H fr o).bind fun x => some ⟨x, x.hw.map (·.1), [], az, [], []⟩
def Q138 (e : Nat → PV) (H : Nat → Option Ob) (vw : Views) (fr : Nat) (az : List Ans) (o : IOper) : Option EV :=
 (o.wanted e).bind fun w => bif w then iopV e H vw fr az o.op else some ⟨⟨.tup [], [], []⟩, [], [], az, [], []⟩
theorem Qe9 {H : Nat → Option Ob} {vw : Views} (hv : VOK H vw) {x : Eff} {az : List Ans} : Turned H vw ⟨x, x.hw.map (·.1), [], az, [], []⟩ := by
  intro id rows hl
  rcases Qis hl with hl | ⟨hl, hc⟩
  · cases hl
  · obtain ⟨ob, hob, hok⟩ := hv id rows hl
    refine ⟨ob, ?_, hok⟩
    rw [Q6g (fun y hy e => hc (by rw [← e]; exact List.mem_map_of_mem hy))]
    exact hob
theorem Qec {G : Nat → Option Fun} {e : Nat → PV} {H : Nat → Option Ob} {vw : Views} (hv : VOK H vw) {fr : Nat} {az : List Ans} {o : IOper} {y : EV} (h : Q138 e H vw fr az o = some y) (hm : Met y.owed) (hq : Told G y.asked) : Q77 (lim G) e H fr o = some y.eff ∧ Turned H vw y := by
  unfold Q138 at h
  obtain ⟨w, hw, h⟩ := Qo h
  unfold Q77
  rw [hw, Option.bind_some]
  cases w with
  | false =>
    simp only [cond_false, Option.some.injEq] at h
    subst h
    exact ⟨rfl, Qe9 hv (x := ⟨.tup [], [], []⟩)⟩
  | true =>
    simp only [cond_true] at h ⊢
    have gen : ((iop mute e H fr o.op).bind fun x => some (⟨x, x.hw.map (·.1), [], az, [], []⟩ : EV)) = some y → iop (lim G) e H fr o.op = some y.eff ∧ Turned H vw y := by
      intro h
      obtain ⟨x, hx, h⟩ := Qo h
      simp only [Option.some.injEq] at h
      subst h
      exact ⟨Q10a hx, Qe9 hv⟩
    cases ho : o.op with
    | call b f xs =>
      rw [ho] at h
      simp only [iopV] at h
      obtain ⟨t, ht, h⟩ := Qo h
      simp only [iop]
      rw [ht, Option.bind_some]
      exact Qvd hv h hm hq
    | _ =>
      rw [ho] at h gen
      exact gen h
abbrev Q6y := List (Nat × (Eff × Views))
structure TV where
  env : List PV
  heap : List (Nat × Ob)
  vw : Views
  effs : List Eff
  hs : Q6y
  az : List Ans
  owed : List Prop
  asked : Qai
def nobody : Nat → Option Ob := fun _ => none
def Qy1 (nx : Nat) : Nat → List IOper → Q6y → List Ans → List PV → List (Nat × Ob) → Views → Option TV
  | _, [], hs, az, env, h, vw => some ⟨env, h, vw, [], hs, az, [], []⟩
  | i, o :: r, hs, az, env, h, vw =>
    match hs with
    | [] => (Q138 (envF env) (look h) vw (nx + 64 * i) az o).bind fun x => (Qy1 nx (i + 1) r [] x.az (put env o.dst x.eff.v) (hput h x.eff.hw) (putV vw x.cut x.new)).bind fun y => some ⟨y.env, y.heap, y.vw, x.eff :: y.effs, y.hs, y.az, x.owed ++ y.owed, x.asked ++ y.asked⟩
    | (k + 1, z) :: hs' => (Q138 (envF env) (look h) vw (nx + 64 * i) az o).bind fun x => (Qy1 nx (i + 1) r ((k, z) :: hs') x.az (put env o.dst x.eff.v) (hput h x.eff.hw) (putV vw x.cut x.new)).bind fun y => some ⟨y.env, y.heap, y.vw, x.eff :: y.effs, y.hs, y.az, x.owed ++ y.owed, x.asked ++ y.asked⟩
    | (0, x) :: hs' => (Qy1 nx (i + 1) r hs' az (put env o.dst x.1.v) (hput h x.1.hw) (putV vw (x.1.hw.map (·.1)) x.2)).bind fun y => some ⟨y.env, y.heap, y.vw, x.1 :: y.effs, y.hs, y.az, (Q77 mute (envF env) (look h) (nx + 64 * i) o = some x.1) :: ((x.2.map fun p => Seen (upH nobody x.1.hw p.1) p.2) ++ y.owed), y.asked⟩
theorem VOK.turned {h : List (Nat × Ob)} {vw : Views} {y : EV} (ht : Turned (look h) vw y) : VOK (look (hput h y.eff.hw)) (putV vw y.cut y.new) := by
 rw [Q6k]
 exact ht
theorem Q15m {ws : List (Nat × Option Ob)} {H : Nat → Option Ob} {id : Nat} {ob : Ob} (h : upH nobody ws id = some ob) : upH H ws id = some ob := by
  by_cases c : ∃ x ∈ ws, x.1 = id
  · rw [Ql2 (H' := nobody) c]
    exact h
  · rw [Q6g (fun y hy e => c ⟨y, hy, e⟩)] at h
    cases h
theorem Qje {G : Nat → Option Fun} {nx : Nat} : ∀ (ops : List IOper) (i : Nat) (hs : Q6y) (az : List Ans) (env : List PV) (h : List (Nat × Ob)) (vw : Views) (t : TV), Qy1 nx i ops hs az env h vw = some t → VOK (look h) vw → Met t.owed → Told G t.asked → Q5n (lim G) nx i ops env h = some (t.env, t.heap, t.effs) ∧ VOK (look t.heap) t.vw
  | [], i, hs, az, env, h, vw, t, ht, hv, _, _ => by
    simp only [Qy1, Option.some.injEq] at ht
    subst ht
    exact ⟨rfl, hv⟩
  | o :: r, i, hs, az, env, h, vw, t, ht, hv, hm, hq => by
    have go : ∀ (x : EV) (hs' : Q6y) (vw' : Views), Q77 (lim G) (envF env) (look h) (nx + 64 * i) o = some x.eff → VOK (look (hput h x.eff.hw)) vw' → ∀ (y : TV), Qy1 nx (i + 1) r hs' x.az (put env o.dst x.eff.v) (hput h x.eff.hw) vw' = some y → Met y.owed → Told G y.asked → y.env = t.env → y.heap = t.heap → y.vw = t.vw → x.eff :: y.effs = t.effs → Q5n (lim G) nx i (o :: r) env h = some (t.env, t.heap, t.effs) ∧ VOK (look t.heap) t.vw := by
      intro x hs' vw' hx hvx y hy hmy hqy e1 e2 e3 e4
      obtain ⟨r1, r2⟩ := Qje r (i + 1) hs' _ _ _ _ y hy hvx hmy hqy
      simp only [Q5n]
      rw [hx, Option.bind_some, r1, Option.bind_some, ← e1, ← e2, ← e3, ← e4]
      exact ⟨rfl, r2⟩
    unfold Qy1 at ht
    split at ht
    · obtain ⟨x, hx, ht⟩ := Qo ht
      obtain ⟨y, hy, ht⟩ := Qo ht
      simp only [Option.some.injEq] at ht
      subst ht
      obtain ⟨s1, s2⟩ := Qec hv hx hm.left hq.left
      exact go x _ _ s1 (VOK.turned s2) y hy hm.right hq.right rfl rfl rfl rfl
    · obtain ⟨x, hx, ht⟩ := Qo ht
      obtain ⟨y, hy, ht⟩ := Qo ht
      simp only [Option.some.injEq] at ht
      subst ht
      obtain ⟨s1, s2⟩ := Qec hv hx hm.left hq.left
      exact go x _ _ s1 (VOK.turned s2) y hy hm.right hq.right rfl rfl rfl rfl
    · rename_i x hs'
      obtain ⟨y, hy, ht⟩ := Qo ht
      simp only [Option.some.injEq] at ht
      subst ht
      have hx : Q77 (lim G) (envF env) (look h) (nx + 64 * i) o = some x.1 := Q177 hm.head
      have hseen : Met (x.2.map fun p => Seen (upH nobody x.1.hw p.1) p.2) := hm.tail.left
      have hvx : VOK (look (hput h x.1.hw)) (putV vw (x.1.hw.map (·.1)) x.2) := by
        rw [Q6k]
        intro id rows hl
        rcases Qis hl with hl | ⟨hl, hc⟩
        · obtain ⟨ob, hob, hok⟩ := hseen _ (List.mem_map_of_mem (f := fun p : Nat × List (List PV) => Seen (upH nobody x.1.hw p.1) p.2) (Qzc hl))
          exact ⟨ob, Q15m hob, hok⟩
        · obtain ⟨ob, hob, hok⟩ := hv id rows hl
          refine ⟨ob, ?_, hok⟩
          rw [Q6g (fun y hy e => hc (by rw [← e]; exact List.mem_map_of_mem hy))]
          exact hob
      exact go ⟨x.1, x.1.hw.map (·.1), x.2, az, [], []⟩ hs' _ hx hvx y hy hm.tail.right hq rfl rfl rfl rfl
structure CV where
  ex : Ex
  st : St
  vw : Views
  hs : Q6y
  az : List Ans
  owed : List Prop
  asked : Qai
def Q5x (m : Nat) : IR → Q6y → List Ans → Views → St → Option CV
 | .skip, hs, az, vw, s => some ⟨.normal, s, vw, hs, az, [], []⟩
 | .reg ops draw, hs, az, vw, s => (Qy1 s.nx 0 ops hs az s.env s.heap vw).bind fun y => bif !draw || calm (ops.zip y.effs) 0 (ops.zip y.effs) then some ⟨.normal, ⟨y.env, y.heap, s.nx + 64 * ops.length⟩, y.vw, y.hs, y.az, y.owed, y.asked⟩ else none
 | .seq a b, hs, az, vw, s => (Q5x m a hs az vw s).bind fun x => (match x.ex with | .normal => (Q5x m b x.hs x.az x.vw x.st).bind fun y => some ⟨y.ex, y.st, y.vw, y.hs, y.az, x.owed ++ y.owed, x.asked ++ y.asked⟩ | _ => some x)
 | .cond c a b, hs, az, vw, s => (match c.ev (envF s.env) with | .bool t => (bif t then Q5x m a hs az vw s else Q5x m b hs az vw s) | _ => none)
 | .block id b, hs, az, vw, s => (Q5x m b hs az vw s).bind fun x => (match x.ex with | .exit j => (bif Nat.beq j id then some ⟨.normal, x.st, x.vw, x.hs, x.az, x.owed, x.asked⟩ else some x) | _ => some x)
 | .loop live b, hs, az, vw, s => (gcV vw m live s).bind fun y => (match az with
  | [] => none
  | a :: az' => (match a.r with | .st e s' => some ⟨e, s', a.vw, hs, az', y.2 ++ (a.vw.map fun p => Seen (look s'.heap p.1) p.2), [(.loop m live b y.1.1 y.1.2, a.r)]⟩ | _ => none))
 | .exit id, hs, az, vw, s => some ⟨.exit id, s, vw, hs, az, [], []⟩
 | .ret, hs, az, vw, s => some ⟨.ret, s, vw, hs, az, [], []⟩
theorem Q2g {G : Nat → Option Fun} {m : Nat} : ∀ (c : IR) (hs : Q6y) (az : List Ans) (vw : Views) (s : St) (t : CV), Q5x m c hs az vw s = some t → VOK (look s.heap) vw → Met t.owed → Told G t.asked → Q4c (lim G) m c s = some (t.ex, t.st) ∧ VOK (look t.st.heap) t.vw
  | .skip, hs, az, vw, s, t, ht, hv, _, _ => by
    simp only [Q5x, Option.some.injEq] at ht
    subst ht
    exact ⟨rfl, hv⟩
  | .reg ops draw, hs, az, vw, s, t, ht, hv, hm, hq => by
    simp only [Q5x] at ht
    obtain ⟨y, hy, ht⟩ := Qo ht
    cases hc : (!draw || calm (ops.zip y.effs) 0 (ops.zip y.effs)) with
    | false => rw [hc] at ht; cases ht
    | true =>
      rw [hc] at ht
      simp only [cond_true, Option.some.injEq] at ht
      subst ht
      obtain ⟨r1, r2⟩ := Qje ops 0 hs az s.env s.heap vw y hy hv hm hq
      have h1 : ireg (lim G) ops draw s = some ⟨y.env, y.heap, s.nx + 64 * ops.length⟩ := by
        unfold ireg
        rw [r1, Option.bind_some]
        simp only
        rw [hc]
        rfl
      simp only [Q4c]
      rw [h1]
      exact ⟨rfl, r2⟩
  | .seq a b, hs, az, vw, s, t, ht, hv, hm, hq => by
    simp only [Q5x] at ht
    obtain ⟨x, hx, ht⟩ := Qo ht
    obtain ⟨ex, st, vw1, hs1, as1, ow1, ak1⟩ := x
    simp only [Q4c]
    cases ex with
    | normal =>
      simp only at ht
      obtain ⟨y, hy, ht⟩ := Qo ht
      simp only [Option.some.injEq] at ht
      subst ht
      obtain ⟨r1, r2⟩ := Q2g a hs az vw s _ hx hv hm.left hq.left
      rw [r1, Option.bind_some]
      exact Q2g b _ _ _ _ y hy r2 hm.right hq.right
    | exit j =>
      simp only [Option.some.injEq] at ht
      subst ht
      obtain ⟨r1, r2⟩ := Q2g a hs az vw s _ hx hv hm hq
      rw [r1, Option.bind_some]
      exact ⟨rfl, r2⟩
    | ret =>
      simp only [Option.some.injEq] at ht
      subst ht
      obtain ⟨r1, r2⟩ := Q2g a hs az vw s _ hx hv hm hq
      rw [r1, Option.bind_some]
      exact ⟨rfl, r2⟩
  | .cond c a b, hs, az, vw, s, t, ht, hv, hm, hq => by
    simp only [Q5x] at ht
    simp only [Q4c]
    split at ht
    · rename_i q hq'
      rw [hq']
      simp only
      cases q with
      | true => exact Q2g a hs az vw s t ht hv hm hq
      | false => exact Q2g b hs az vw s t ht hv hm hq
    · cases ht
  | .block id b, hs, az, vw, s, t, ht, hv, hm, hq => by
    simp only [Q5x] at ht
    obtain ⟨x, hx, ht⟩ := Qo ht
    obtain ⟨ex, st, vw1, hs1, as1, ow1, ak1⟩ := x
    simp only [Q4c]
    cases ex with
    | normal =>
      simp only [Option.some.injEq] at ht
      subst ht
      obtain ⟨r1, r2⟩ := Q2g b hs az vw s _ hx hv hm hq
      rw [r1, Option.bind_some]
      exact ⟨rfl, r2⟩
    | ret =>
      simp only [Option.some.injEq] at ht
      subst ht
      obtain ⟨r1, r2⟩ := Q2g b hs az vw s _ hx hv hm hq
      rw [r1, Option.bind_some]
      exact ⟨rfl, r2⟩
    | exit j =>
      simp only at ht
      cases hj : Nat.beq j id with
      | true =>
        rw [hj] at ht
        simp only [cond_true, Option.some.injEq] at ht
        subst ht
        obtain ⟨r1, r2⟩ := Q2g b hs az vw s _ hx hv hm hq
        rw [r1, Option.bind_some]
        simp only
        rw [hj]
        exact ⟨rfl, r2⟩
      | false =>
        rw [hj] at ht
        simp only [cond_false, Option.some.injEq] at ht
        subst ht
        obtain ⟨r1, r2⟩ := Q2g b hs az vw s _ hx hv hm hq
        rw [r1, Option.bind_some]
        simp only
        rw [hj]
        exact ⟨rfl, r2⟩
  | .loop live b, hs, az, vw, s, t, ht, hv, hm, hq => by
    simp only [Q5x] at ht
    obtain ⟨y, hy, ht⟩ := Qo ht
    simp only [Q4c]
    cases az with
    | nil => cases ht
    | cons a az' =>
      obtain ⟨r, avw⟩ := a
      cases r with
      | ret _ _ => cases ht
      | st e s' =>
        simp only [Option.some.injEq] at ht
        subst ht
        rw [Qxp hv hy hm.left, Option.bind_some, Q1ey (hq _ List.mem_cons_self), Option.bind_some]
        refine ⟨rfl, fun id rows hl => ?_⟩
        exact hm.right _ (List.mem_map_of_mem (f := fun p : Nat × List (List PV) => Seen (look s'.heap p.1) p.2) (Qzc hl))
  | .exit id, hs, az, vw, s, t, ht, hv, _, _ => by
    simp only [Q5x, Option.some.injEq] at ht
    subst ht
    exact ⟨rfl, hv⟩
  | .ret, hs, az, vw, s, t, ht, hv, _, _ => by
    simp only [Q5x, Option.some.injEq] at ht
    subst ht
    exact ⟨rfl, hv⟩
def finV (fn : IFn) (m : Nat) (vw : Views) (s : St) : Option (Rs × List Prop) :=
 (mapO (rv s) fn.res).bind fun vs =>
  let a := bif fn.keep then Q4b s.nx vs else (vs, s.nx, [])
  let H := look (s.heap ++ a.2.2)
  (Q8g (Qad H vw fn.keep 8) a.1 (upTo m)).bind fun y =>
   (Q7x H vw false true 32 0 y.1.2.1).bind fun z =>
    bif disj (y.1.2.2 ++ z.1.2.2) z.1.2.1 then some (.ret (match y.1.1 with | [v] => v | l => .tup l) (regr m z.1.1), y.2 ++ z.2) else none
theorem Qna {fn : IFn} {m : Nat} {vw : Views} {s : St} (hv : VOK (look s.heap) vw) {y : Rs × List Prop} (h : finV fn m vw s = some y) (hm : Met y.2) : fin fn m s = some y.1 := by
 unfold finV at h
 unfold fin
 obtain ⟨vs, hvs, h⟩ := Qo h
 rw [hvs, Option.bind_some]
 simp only at h ⊢
 have hv' : VOK (look (s.heap ++ (bif fn.keep then Q4b s.nx vs else (vs, s.nx, [])).2.2)) vw := by
  intro id rows hl
  obtain ⟨ob, hob, hok⟩ := hv id rows hl
  refine ⟨ob, ?_, hok⟩
  rw [Qto, hob]
 obtain ⟨x, hx, h⟩ := Qo h
 obtain ⟨z, hz, h⟩ := Qo h
 cases hd : disj (x.1.2.2 ++ z.1.2.2) z.1.2.1 with
 | false => rw [hd] at h; cases h
 | true =>
  rw [hd] at h
  simp only [cond_true, Option.some.injEq] at h
  subst h
  rw [Q3h (Q6o hv' 8) _ _ x hx hm.left, Option.bind_some, Q4h hv' 32 _ _ z hz hm.right, Option.bind_some, hd]
  rfl
def Q1gj (fn : IFn) (args : List PV) (h : List Ob) (vw : Views) (hs : Q6y) (az : List Ans) : Option (Rs × List Prop × Qai) :=
 bif Nat.beq args.length fn.np then
  (Q5x h.length fn.body hs az vw ⟨args ++ nuns (fn.nt - fn.np), number 0 h, h.length⟩).bind fun x =>
   (match x.ex with
    | .exit _ => none
    | _ => (finV fn h.length x.vw x.st).bind fun r => some (r.1, x.owed ++ r.2, x.asked))
 else none
theorem Q1h2 {G : Nat → Option Fun} {f : Nat} {fn : IFn} (hG : G f = some (.ir fn)) {args : List PV} {h : List Ob} {vw : Views} (hv : VOK (look (number 0 h)) vw) {hs : Q6y} {az : List Ans} {r : Rs} {ow : List Prop} {ak : Qai} (hp : Met ow) (hq : Told G ak) (ht : Q1gj fn args h vw hs az = some (r, ow, ak)) : Q6 G (.call f args h) r := by
 refine Q18n Qf3 ?_
 unfold Q1gj at ht
 simp only [phi, hG]
 cases hl : Nat.beq args.length fn.np with
 | false => rw [hl] at ht; cases ht
 | true =>
  rw [hl] at ht
  simp only [cond_true] at ht ⊢
  obtain ⟨x, hx, ht⟩ := Qo ht
  obtain ⟨ex, st, vw1, hs1, as1, ow1, ak1⟩ := x
  cases ex with
  | exit j => cases ht
  | normal =>
   simp only at ht
   obtain ⟨r', hr, ht⟩ := Qo ht
   simp only [Option.some.injEq, Prod.mk.injEq] at ht
   obtain ⟨rfl, rfl, rfl⟩ := ht
   obtain ⟨r1, r2⟩ := Q2g _ hs az vw _ _ hx hv hp.left hq
   rw [r1, Option.bind_some]
   exact Qna r2 hr hp.right
  | ret =>
   simp only at ht
   obtain ⟨r', hr, ht⟩ := Qo ht
   simp only [Option.some.injEq, Prod.mk.injEq] at ht
   obtain ⟨rfl, rfl, rfl⟩ := ht
   obtain ⟨r1, r2⟩ := Q2g _ hs az vw _ _ hx hv hp.left hq
   rw [r1, Option.bind_some]
   exact Qna r2 hr hp.right
theorem VOK.nil {H : Nat → Option Ob} : VOK H [] := fun _ _ h => by cases h
def Q1fv (m : Nat) (live : List Nat) (b : IR) (env : List PV) (h : List Ob) (vw : Views) (hs : Q6y) (az : List Ans) : Option ((List PV × List Ob) × List Prop × Qai) :=
 (Q5x m b hs az vw ⟨env, number 0 h, h.length⟩).bind fun x => (match x.ex with | .normal => (gcV x.vw m live x.st).bind fun y => some (y.1, x.owed ++ y.2, x.asked) | _ => none)
theorem Qzf {G : Nat → Option Fun} {m : Nat} {live : List Nat} {b : IR} {env : List PV} {h : List Ob} {vw : Views} (hv : VOK (look (number 0 h)) vw) {hs : Q6y} {az : List Ans} {y : List PV × List Ob} {ow : List Prop} {ak : Qai} {r : Rs} (hp : Met ow) (hq : Told G ak) (ht : Q1fv m live b env h vw hs az = some (y, ow, ak)) (hr : Q6 G (.loop m live b y.1 y.2) r) : Q6 G (.loop m live b env h) r := by
 unfold Q1fv at ht
 obtain ⟨x, hx, ht⟩ := Qo ht
 obtain ⟨ex, st, vw1, hs1, as1, ow1, ak1⟩ := x
 cases ex with
 | normal =>
  simp only at ht
  obtain ⟨y', hg, ht⟩ := Qo ht
  simp only [Option.some.injEq, Prod.mk.injEq] at ht
  obtain ⟨rfl, rfl, rfl⟩ := ht
  obtain ⟨r1, r2⟩ := Q2g _ hs az vw _ _ hx hv hp.left hq
  exact Q17f Qf3 r1 (Qxp r2 hg hp.right) hr
 | exit j => cases ht
 | ret => cases ht
def Q19j (m : Nat) (b : IR) (env : List PV) (h : List Ob) (vw : Views) (hs : Q6y) (az : List Ans) : Option ((Ex × St) × List Prop × Qai) :=
 (Q5x m b hs az vw ⟨env, number 0 h, h.length⟩).bind fun x => (match x.ex with | .normal => none | e => some ((e, x.st), x.owed, x.asked))
theorem Q183 {G : Nat → Option Fun} {m : Nat} {live : List Nat} {b : IR} {env : List PV} {h : List Ob} {vw : Views} (hv : VOK (look (number 0 h)) vw) {hs : Q6y} {az : List Ans} {x : Ex × St} {ow : List Prop} {ak : Qai} (hp : Met ow) (hq : Told G ak) (ht : Q19j m b env h vw hs az = some (x, ow, ak)) : Q6 G (.loop m live b env h) (.st x.1 x.2) := by
 unfold Q19j at ht
 obtain ⟨y, hy, ht⟩ := Qo ht
 obtain ⟨ex, st, vw1, hs1, as1, ow1, ak1⟩ := y
 cases ex with
 | normal => cases ht
 | exit j =>
  simp only [Option.some.injEq, Prod.mk.injEq] at ht
  obtain ⟨rfl, rfl, rfl⟩ := ht
  exact Qig Qf3 (by intro h; cases h) (Q2g _ hs az vw _ _ hy hv hp hq).1
 | ret =>
  simp only [Option.some.injEq, Prod.mk.injEq] at ht
  obtain ⟨rfl, rfl, rfl⟩ := ht
  exact Qig Qf3 (by intro h; cases h) (Q2g _ hs az vw _ _ hy hv hp hq).1
end Go.Pv
end

section
/-
  Small words and hints' lemmas for walks that a program prints.
-/
namespace Go.Pv
def bE (b : Bool) : Eff := ⟨.bool b, [], []⟩
def vE (v : PV) : Eff := ⟨v, [], []⟩
def w64 (n : Int) : Int := IntKind.i64.wrap n
def mx (x y : Int) : Int := if y > x then y else x
def sEq (a b : ByteArray) : Bool := a.toList == b.toList
theorem dec (c v : Bool) (h : c = v) : some (bE c) = some (bE v) := by rw [h]
theorem Qb {α : Type} {f : α → List PV} {l : List α} {i : Nat} {x : α} (h : l[i]? = some x) : (l.map f)[i]? = some (f x) := by
 rw [List.getElem?_map, h]
 rfl
def ixE (sz : Nat) (l : List (List PV)) (i : Int) : Option Eff := (opP (fun _ => .un) (.iaddr sz (.c (.sl l)) (.c (.int .i64 i)))).bind fun v => some ⟨v, [], []⟩
theorem Q1k (sz : Nat) (l : List (List PV)) (i : Nat) (r : List PV) (h : l[i]? = some r) (hs : r.length = sz) : ixE sz l (i : Int) = some (vE (.rf r)) := by
 unfold ixE
 simp only [opP, Opd.ev, asNat]
 have h0 : decide (0 ≤ (i : Int)) = true := by simp
 rw [h0]
 simp only [cond_true, Option.bind_some, Int.toNat_natCast]
 rw [h]
 subst hs
 simp [vE]
def lenE (l : List (List PV)) : Option Eff := some ⟨.int .i64 (l.length : Int), [], []⟩
theorem Qf (l : List (List PV)) (n : Nat) (h : l.length = n) : lenE l = some (vE (.int .i64 (n : Int))) := by
 unfold lenE
 rw [h]
 rfl
theorem Q1ap {n : Int} (h : -9223372036854775808 ≤ n ∧ n ≤ 9223372036854775807) : w64 n = n := by
 unfold w64 IntKind.wrap
 simp [IntKind.signed, IntKind.bits]
 omega
def addE (a b : Int) : Option Eff := some ⟨.int .i64 (IntKind.i64.wrap (a + b)), [], []⟩
theorem Q29 (i : Nat) (h : i < 9223372036854775807) : addE (i : Int) 1 = some (vE (.int .i64 ((i + 1 : Nat) : Int))) := by
 unfold addE
 have : IntKind.i64.wrap ((i : Int) + 1) = ((i + 1 : Nat) : Int) := by
  have := Q1ap (n := (i : Int) + 1) (by omega)
  unfold w64 at this
  rw [this]
  rfl
 rw [this]
 rfl
theorem Q1es {ob : Ob} {k : Nat} (h : ob.cells.length = k) : apC ob k = some ob.cells := by
 unfold apC
 rw [h, Nat.beq_refl]
 rfl
def apE (id lid fr sz bytes ro lro : Nat) (lgr : Bool) (rows : List (List PV)) (r : List PV) (n : Nat) : Option Eff :=
 Q5v (look [(id, ⟨sz, ro, true, rows.flatten⟩), (lid, ⟨sz, lro, lgr, r⟩)]) fr sz bytes (.ms id sz 0 n) (.ms lid sz 0 1)
theorem Q5e (id lid fr sz bytes ro lro : Nat) (lgr : Bool) (rows rows' : List (List PV)) (r : List PV) (n n' : Nat) (hne : Nat.beq id lid = false) (hn : n = rows.length) (hn' : n' = rows'.length) (hr' : rows' = rows ++ [r])
  (hs : ∀ r ∈ rows, r.length = sz) (hr : r.length = sz) (hb : (n + 1) * bytes ≤ 140737488355328) :
  apE id lid fr sz bytes ro lro lgr rows r n = some ⟨.ms fr sz 0 n', [(id, none), (fr, some ⟨sz, ro, true, rows'.flatten⟩)], [id, lid]⟩ := by
 subst hn hn' hr'
 unfold apE Q5v
 have h1 : look [(id, (⟨sz, ro, true, rows.flatten⟩ : Ob)), (lid, ⟨sz, lro, lgr, r⟩)] lid = some ⟨sz, lro, lgr, r⟩ := by simp [look, hne]
 have h2 : look [(id, (⟨sz, ro, true, rows.flatten⟩ : Ob)), (lid, ⟨sz, lro, lgr, r⟩)] id = some ⟨sz, ro, true, rows.flatten⟩ := by simp [look]
 have hsrc : source (look [(id, (⟨sz, ro, true, rows.flatten⟩ : Ob)), (lid, ⟨sz, lro, lgr, r⟩)]) sz (.ms lid sz 0 1) = some (1, r, [lid]) := by
  simp only [source, h1, Option.bind_some]
  subst hr
  have : Nat.ble r.length r.length = true := Nat.ble_eq_true_of_le (Nat.le_refl _)
  simp [this]
 rw [hsrc, Option.bind_some]
 simp only [h2, Option.bind_some]
 have hc : (true && Nat.beq sz sz && Nat.beq sz sz && Nat.beq 0 0 && Nat.ble ((rows.length + 1) * bytes) 140737488355328) = true := by
  simp only [Nat.beq_refl, Bool.and_true, Bool.true_and]
  exact Nat.ble_eq_true_of_le hb
 rw [hc, Q1es (ob := ⟨sz, ro, true, rows.flatten⟩) (Q6n sz rows hs)]
 simp
end Go.Pv
namespace Go.Pv
theorem VOK.cons {H : Nat → Option Ob} {vw : Views} {id : Nat} {rows : List (List PV)} (h : Seen (H id) rows) (hv : VOK H vw) : VOK H ((id, rows) :: vw) := by
 intro k rs hl
 simp only [look] at hl
 cases c : Nat.beq id k with
 | true =>
  have := Nat.eq_of_beq_eq_true c
  subst this
  rw [c] at hl
  simp only [cond_true, Option.some.injEq] at hl
  subst hl
  exact h
 | false =>
  rw [c] at hl
  exact hv k rs hl
theorem Q12 {α : Type} {l : List α} {i : Nat} {x : α} {r : List α} (h : l.drop i = x :: r) : l[i]? = some x ∧ i < l.length ∧ l.drop (i + 1) = r := by
 have h1 : l[i]? = some x := by
  have := congrArg (fun q => q[0]?) h
  simpa [List.getElem?_drop] using this
 have h2 : i < l.length := (List.getElem?_eq_some_iff.1 h1).1
 refine ⟨h1, h2, ?_⟩
 rw [← List.tail_drop, h]
 rfl
theorem Q1g {α : Type} {l : List α} {i : Nat} (h : l.drop i = []) : l.length ≤ i := by
 simpa using h
theorem Q2e {α : Type} {l : List α} {i : Nat} {x : α} (h : l[i]? = some x) : x ∈ l := List.mem_of_getElem? h
def Qe (l : List ByteArray) : List (List PV) := l.map fun n => [.str n]
theorem Q1c (l : List ByteArray) : (Qe l).length = l.length := by simp [Qe]
theorem Q3t {l : List ByteArray} {i : Nat} {x : ByteArray} (h : l[i]? = some x) : (Qe l)[i]? = some [.str x] := Qb (f := fun n => [.str n]) h
theorem Qzv (l : List ByteArray) (x : ByteArray) : Qe (l ++ [x]) = Qe l ++ [[.str x]] := by simp [Qe]
theorem Q35 {α : Type} {f : α → List PV} {n : Nat} (h : ∀ x, (f x).length = n) (l : List α) : ∀ r ∈ l.map f, r.length = n := fun r hr => by
 obtain ⟨x, _, rfl⟩ := List.mem_map.1 hr
 exact h x
theorem Q2o {α : Type} {f : α → List PV} (h : ∀ x, (f x).all plain = true) (l : List α) : ∀ r ∈ l.map f, ∀ p ∈ r, plain p = true := fun r hr p hp => by
 obtain ⟨x, _, rfl⟩ := List.mem_map.1 hr
 exact List.all_eq_true.1 (h x) p hp
theorem Qkt (l : List ByteArray) : ∀ r ∈ Qe l, r.length = 1 := Q35 (f := fun n => [.str n]) (fun _ => rfl) l
theorem Q6f (l : List ByteArray) (sz : Nat) (h : sz = 1) : ViewOK sz (Qe l).flatten (Qe l) := by subst h; exact ⟨rfl, Qkt l, Q2o (f := fun n => [.str n]) (fun _ => rfl) l⟩
end Go.Pv
namespace Go.Pv
def zoF (l : List (Nat × List PV)) (j : Nat) : List PV := (look l j).getD []
end Go.Pv
namespace Go.Pv
def optI : Option Int → Option Opd
 | none => none
 | some n => some (.c (.int .i64 n))
def slE (sz : Nat) (l : List (List PV)) (lo hi : Option Int) : Option Eff := (opP (fun _ => .un) (.slice sz (.c (.sl l)) (optI lo) (optI hi) none)).bind fun v => some ⟨v, [], []⟩
theorem Q91 {l : List (List PV)} {sz : Nat} (hs : ∀ r ∈ l, r.length = sz) : Q5y l sz = true := by
 unfold Q5y
 rw [List.all_eq_true]
 intro r hr
 rw [hs r hr]
 exact Nat.beq_refl sz
theorem Q1gb (sz : Nat) (l l' : List (List PV)) (k : Int) (hs : ∀ r ∈ l, r.length = sz) (h0 : 0 ≤ k) (h1 : k ≤ (l.length : Int)) (hl : l' = l.take k.toNat) : slE sz l none (some k) = some (vE (.sl l')) := by
 subst hl
 unfold slE
 simp only [opP, optI, Opd.ev, Q5g, asNat, Option.bind_some]
 have e0 : decide (0 ≤ k) = true := by simpa using h0
 rw [e0]
 simp only [cond_true, Option.bind_some]
 have e1 : (Q5y l sz && (Nat.ble 0 k.toNat && Nat.ble k.toNat l.length)) = true := by
  rw [Q91 hs]
  simp only [Bool.true_and, Bool.and_eq_true]
  exact ⟨Nat.ble_eq_true_of_le (Nat.zero_le _), Nat.ble_eq_true_of_le (by omega)⟩
 rw [e1]
 simp [vE]
theorem Q1i0 (sz : Nat) (l l' : List (List PV)) (k : Int) (hs : ∀ r ∈ l, r.length = sz) (h0 : 0 ≤ k) (h1 : k ≤ (l.length : Int)) (hl : l' = l.drop k.toNat) : slE sz l (some k) none = some (vE (.sl l')) := by
 subst hl
 unfold slE
 simp only [opP, optI, Opd.ev, Q5g, asNat, Option.bind_some]
 have e0 : decide (0 ≤ k) = true := by simpa using h0
 rw [e0]
 simp only [cond_true, Option.bind_some]
 have e1 : (Q5y l sz && (Nat.ble k.toNat l.length && Nat.ble l.length l.length)) = true := by
  rw [Q91 hs]
  simp only [Bool.true_and, Bool.and_eq_true]
  exact ⟨Nat.ble_eq_true_of_le (by omega), Nat.ble_eq_true_of_le (Nat.le_refl _)⟩
 rw [e1]
 simp [vE]
end Go.Pv
namespace Go.Pv
def ixmE (id sz off len : Nat) (i : Int) : Option Eff := (opP (fun _ => .un) (.iaddr sz (.c (.ms id sz off len)) (.c (.int .i64 i)))).bind fun v => some ⟨v, [], []⟩
theorem Q1kk (id sz off len : Nat) (i : Int) (k at_ : Nat) (h : i = (k : Int)) (hk : k < len) (ha : at_ = (off + k) * sz) : ixmE id sz off len i = some (vE (.bx id at_)) := by
 subst h ha
 unfold ixmE
 simp only [opP, Opd.ev, asNat]
 have h0 : decide (0 ≤ (k : Int)) = true := by simp
 rw [h0]
 simp only [cond_true, Option.bind_some, Int.toNat_natCast]
 have h1 : (Nat.beq sz sz && Nat.blt k len) = true := by
  rw [Nat.beq_refl, Bool.true_and]
  exact Nat.ble_eq_true_of_le hk
 rw [h1]
 rfl
end Go.Pv
namespace Go.Pv
theorem Q3l (id sz len : Nat) (i : Int) (k : Nat) (hk : k = i.toNat) (h0 : 0 ≤ i) (h1 : i < (len : Int)) : ixmE id sz 0 len i = some (vE (.bx id (k * sz))) :=
 Q1kk id sz 0 len i k (k * sz) (by omega) (by omega) (by rw [Nat.zero_add])
theorem Qe5 (sz : Nat) : ∀ (rows : List (List PV)) (k : Nat), (∀ r ∈ rows, r.length = sz) → rows.flatten.drop (k * sz) = (rows.drop k).flatten
 | [], k, _ => by simp
 | r :: rs, 0, _ => by simp
 | r :: rs, k + 1, h => by
  have h0 := h r List.mem_cons_self
  rw [List.flatten_cons, List.drop_succ_cons, ← Qe5 sz rs k (fun q hq => h q (List.mem_cons_of_mem _ hq)), Nat.add_mul, Nat.one_mul, Nat.add_comm, ← List.drop_drop, List.drop_left' h0]
theorem Q151 {sz : Nat} {rows : List (List PV)} {k : Nat} {r : List PV} {off n : Nat} (hr : rows[k]? = some r) (hs : ∀ r ∈ rows, r.length = sz) (hn : off + n ≤ sz) : (rows.flatten.drop (k * sz + off)).take n = (r.drop off).take n ∧ k * sz + off + n ≤ rows.flatten.length := by
  have hk : k < rows.length := (List.getElem?_eq_some_iff.1 hr).1
  have hd : rows.drop k = r :: rows.drop (k + 1) := by
    rw [List.drop_eq_getElem_cons hk]
    congr 1
    exact (List.getElem?_eq_some_iff.1 hr).2
  have hl := hs r (List.mem_of_getElem? hr)
  refine ⟨?_, ?_⟩
  · rw [← List.drop_drop, Qe5 sz rows k hs, hd, List.flatten_cons]
    rw [List.drop_append_of_le_length (by omega), List.take_append_of_le_length (by rw [List.length_drop]; omega)]
  · rw [Q6n sz rows hs]
    have : (k + 1) * sz ≤ rows.length * sz := Nat.mul_le_mul_right _ hk
    rw [Nat.add_mul] at this
    omega
def ldE (id sz ro : Nat) (gr : Bool) (cells : List PV) (n : Nat) (ag : Bool) (at_ : Nat) : Option Eff := Qjs (look [(id, ⟨sz, ro, gr, cells⟩)]) n ag (.bx id at_)
theorem Qbq (id sz ro : Nat) (gr : Bool) (cells : List PV) (rows : List (List PV)) (n : Nat) (ag : Bool) (k off at_ : Nat) (r : List PV) (v : PV) (hc : cells = rows.flatten) (ha : at_ = k * sz + off) (hr : rows[k]? = some r) (hs : ∀ r ∈ rows, r.length = sz) (hn : off + n ≤ sz) (hv : shape ag ((r.drop off).take n) = some v) :
  ldE id sz ro gr cells n ag at_ = some ⟨v, [], [id]⟩ := by
 subst hc ha
 obtain ⟨h1, h2⟩ := Q151 hr hs hn
 unfold ldE Qjs reads
 simp only [look, Nat.beq_refl, cond_true, Option.bind_some]
 rw [Nat.ble_eq_true_of_le h2]
 simp only [cond_true, Option.bind_some]
 rw [h1, hv, Option.bind_some]
theorem Q21 {α : Type} (l : List α) (k : Nat) (d : α) (h : k < l.length) : l[k]? = some (l.getD k d) := by
 rw [List.getD_eq_getElem?_getD, List.getElem?_eq_getElem h]
 rfl
end Go.Pv
namespace Go.Pv
theorem decR (c v : Bool) (hr : List Nat) (h : c = v) : some (⟨.bool c, [], hr⟩ : Eff) = some ⟨.bool v, [], hr⟩ := by rw [h]
end Go.Pv
namespace Go.Pv
def aplE (id fr sz bytes ro : Nat) (cells : List PV) (rows : List (List PV)) (n : Nat) : Option Eff :=
 Q5v (look [(id, ⟨sz, ro, true, cells⟩)]) fr sz bytes (.ms id sz 0 n) (.sl rows)
theorem Qa9 (id fr sz bytes ro : Nat) (cells : List PV) (rows0 rows rows' : List (List PV)) (n n' : Nat) (hc : cells = rows0.flatten) (hn : n = rows0.length) (hn' : n' = rows'.length) (hr' : rows' = rows0 ++ rows)
  (hs0 : ∀ r ∈ rows0, r.length = sz) (hs : ∀ r ∈ rows, r.length = sz) (hb : (n + rows.length) * bytes ≤ 140737488355328) :
  aplE id fr sz bytes ro cells rows n = some ⟨.ms fr sz 0 n', [(id, none), (fr, some ⟨sz, ro, true, rows'.flatten⟩)], [id]⟩ := by
 subst hc hn hn' hr'
 unfold aplE Q5v
 simp only [source]
 rw [Q91 hs]
 simp only [cond_true, Option.bind_some, look, Nat.beq_refl]
 have hc : (true && true && true && true && Nat.ble ((rows0.length + rows.length) * bytes) 140737488355328) = true := by
  simp only [Bool.and_true, Bool.true_and]
  exact Nat.ble_eq_true_of_le hb
 rw [hc, Q1es (ob := ⟨sz, ro, true, rows0.flatten⟩) (Q6n sz rows0 hs0)]
 simp
end Go.Pv
end

section
/- More of single operations: sums that don't run over; shifts of indexes; stores into a slice of one's own that is known by its rows. -/
namespace Go.Pv
def wE (n : Int) : Option Eff := some ⟨.int .i64 (IntKind.i64.wrap n), [], []⟩
theorem w_ok (n : Int) (h : -9223372036854775808 ≤ n ∧ n ≤ 9223372036854775807) : wE n = some (vE (.int .i64 n)) := by
 unfold wE
 have := Q1ap h
 unfold w64 at this
 rw [this]
 rfl
def sCmp (a b : ByteArray) : Int := cmpL a.toList b.toList
theorem Qli {sz : Nat} : ∀ (rows : List (List PV)) (k : Nat) (r vals : List PV) (off n : Nat), rows[k]? = some r → (∀ q ∈ rows, q.length = sz) → off + n ≤ sz → vals.length = n →
  rows.flatten.take (k * sz + off) ++ (vals ++ rows.flatten.drop (k * sz + off + n)) = (rows.set k (r.take off ++ (vals ++ r.drop (off + n)))).flatten ∧ k * sz + off + n ≤ rows.flatten.length
 | [], _, _, _, _, _, h, _, _, _ => by simp at h
 | q :: rs, 0, r, vals, off, n, h, hs, hn, hv => by
  have hq := hs q List.mem_cons_self
  simp only [List.getElem?_cons_zero, Option.some.injEq] at h
  subst h
  simp only [Nat.zero_mul, Nat.zero_add, List.flatten_cons, List.set_cons_zero, List.length_append]
  refine ⟨?_, by omega⟩
  rw [List.take_append_of_le_length (by omega), List.drop_append_of_le_length (by omega)]
  simp only [List.append_assoc]
 | q :: rs, k + 1, r, vals, off, n, h, hs, hn, hv => by
  have hq := hs q List.mem_cons_self
  simp only [List.getElem?_cons_succ] at h
  obtain ⟨h1, h2⟩ := Qli rs k r vals off n h (fun q hq => hs q (List.mem_cons_of_mem _ hq)) hn hv
  have e1 : (k + 1) * sz + off = q.length + (k * sz + off) := by rw [hq, Nat.add_mul]; omega
  have e2 : (k + 1) * sz + off + n = q.length + (k * sz + off + n) := by rw [hq, Nat.add_mul]; omega
  simp only [List.flatten_cons, List.set_cons_succ, List.length_append]
  refine ⟨?_, by omega⟩
  rw [e2, e1, List.take_length_add_append, List.drop_length_add_append, ← h1]
  simp only [List.append_assoc]
def stE (id sz ro : Nat) (gr : Bool) (cells : List PV) (n : Nat) (at_ : Nat) (x : PV) : Option Eff := Qac (look [(id, ⟨sz, ro, gr, cells⟩)]) n (.bx id at_) x
theorem Qd5 (id sz : Nat) (gr : Bool) (cells : List PV) (rows rows' : List (List PV)) (n k off at_ : Nat) (r : List PV) (x : PV) (hc : cells = rows.flatten) (ha : at_ = k * sz + off) (hr : rows[k]? = some r) (hs : ∀ r ∈ rows, r.length = sz) (hn : off + n ≤ sz) (hx : x.cs.length = n) (hf : x.fits = true) (hrows : rows' = rows.set k (r.take off ++ (x.cs ++ r.drop (off + n)))) :
  stE id sz 0 gr cells n at_ x = some ⟨.un, [(id, some ⟨sz, 0, gr, rows'.flatten⟩)], [id]⟩ := by
 subst hc ha hrows
 obtain ⟨h1, h2⟩ := Qli rows k r x.cs off n hr hs hn hx
 unfold stE Qac
 simp only [look, Nat.beq_refl, cond_true, Option.bind_some]
 rw [hx, hf, Nat.beq_refl, Nat.ble_eq_true_of_le h2, Nat.ble_eq_true_of_le (Nat.zero_le _), h1]
 rfl
theorem Q2j {α : Type} (f : α → List PV) (l : List α) (k : Nat) (x : α) : (l.set k x).map f = (l.map f).set k (f x) := List.map_set
theorem Q3p {α : Type} {l : List α} {n : Nat} (h : l.length = n) (k : Nat) (x : α) : (l.set k x).length = n := by rw [List.length_set, h]
def cvE (k : IntKind) (n : Int) : Option Eff := (some (PV.int k (k.wrap n))).bind fun v => some ⟨v, [], []⟩
theorem Qe2 (n : Int) (h : 0 ≤ n ∧ n ≤ 9223372036854775807) : cvE .i64 n = some (vE (.int .i64 n)) := by
 unfold cvE
 have := Q1ap (n := n) (by omega)
 unfold w64 at this
 rw [this]
 rfl
end Go.Pv
end

section
/- A walk's hints and answers, each with its proof. -/
namespace Go.Pv
structure It where
  hint : Option (Nat × (Eff × Views))
  p : Prop
  pf : p
def hsOf : List It → Q6y
 | [] => []
 | x :: r => (match x.hint with | some h => h :: hsOf r | none => hsOf r)
def owOf : List It → List Prop
 | [] => []
 | x :: r => x.p :: owOf r
theorem Q1c7 : ∀ l : List It, Met (owOf l)
 | [] => Met.nil
 | x :: r => Met.cons x.pf (Q1c7 r)
structure An (G : Nat → Option Fun) where
  e : En
  r : Rs
  vw : Views
  pf : Q6 G e r
def asOf {G : Nat → Option Fun} : List (An G) → List Ans
 | [] => []
 | x :: r => ⟨x.r, x.vw⟩ :: asOf r
def akOf {G : Nat → Option Fun} : List (An G) → Qai
 | [] => []
 | x :: r => (x.e, x.r) :: akOf r
theorem Q12t {G : Nat → Option Fun} : ∀ l : List (An G), Told G (akOf l)
 | [] => Told.nil
 | x :: r => Told.cons x.pf (Q12t r)
def hB {c v : Bool} (n : Nat) (h : c = v) : It := ⟨some (n, (bE v, [])), some (bE c) = some (bE v), dec c v h⟩
def hP {x : Option Eff} {y : Eff} (n : Nat) (h : x = some y) : It := ⟨some (n, (y, [])), x = some y, h⟩
def hV {x : Option Eff} {y : Eff} (n : Nat) (vw : Views) (h : x = some y) : It := ⟨some (n, (y, vw)), x = some y, h⟩
def hQ {p : Prop} (h : p) : It := ⟨none, p, h⟩
def aN {G : Nat → Option Fun} {e : En} {r : Rs} (h : Q6 G e r) : An G := ⟨e, r, [], h⟩
def aV {G : Nat → Option Fun} {e : En} {r : Rs} (vw : Views) (h : Q6 G e r) : An G := ⟨e, r, vw, h⟩
def aB {G : Nat → Option Fun} {e : En} {c v : Bool} (h : Q6 G e (.ret (.bool c) [])) (hc : c = v) : An G := ⟨e, .ret (.bool v) [], [], hc ▸ h⟩
theorem vk1 {sz ro : Nat} {gr : Bool} {cells : List PV} {rows : List (List PV)} (h : ViewOK sz cells rows) : VOK (look (number 0 [⟨sz, ro, gr, cells⟩])) [(0, rows)] := VOK.cons (show Seen _ _ from Q3q (ob := ⟨sz, ro, gr, cells⟩) h) VOK.nil
theorem Q8 {G : Nat → Option Fun} {f : Nat} {fn : IFn} (hG : G f = some (.ir fn)) {args : List PV} {h : List Ob} {vw : Views} (hv : VOK (look (number 0 h)) vw) {r : Rs} (l : List It) (q : List (An G)) (ht : Q1gj fn args h vw (hsOf l) (asOf q) = some (r, owOf l, akOf q)) : Q6 G (.call f args h) r := Q1h2 hG hv (Q1c7 l) (Q12t q) ht
theorem Qm {G : Nat → Option Fun} {m : Nat} {live : List Nat} {b : IR} {env : List PV} {h : List Ob} {vw : Views} (hv : VOK (look (number 0 h)) vw) {y : List PV × List Ob} {r : Rs} (l : List It) (q : List (An G)) (ht : Q1fv m live b env h vw (hsOf l) (asOf q) = some (y, owOf l, akOf q)) (hr : Q6 G (.loop m live b y.1 y.2) r) : Q6 G (.loop m live b env h) r := Qzf hv (Q1c7 l) (Q12t q) ht hr
theorem Qh {G : Nat → Option Fun} {m : Nat} {live : List Nat} {b : IR} {env : List PV} {h : List Ob} {vw : Views} (hv : VOK (look (number 0 h)) vw) {x : Ex × St} (l : List It) (q : List (An G)) (ht : Q19j m b env h vw (hsOf l) (asOf q) = some (x, owOf l, akOf q)) : Q6 G (.loop m live b env h) (.st x.1 x.2) := Q183 hv (Q1c7 l) (Q12t q) ht
end Go.Pv
namespace Go.Pv
def hS {sz : Nat} {cells : List PV} {rows : List (List PV)} (ro : Nat) (gr : Bool) (h : ViewOK sz cells rows) : It := hQ (Q3q (ob := ⟨sz, ro, gr, cells⟩) h)
end Go.Pv
end

section
/-
  What a law is handed, as plain Lean values.
-/
namespace Go.Pv
def okI (k : IntKind) (n : Int) : Prop := (Lit.int k n).wf = true
def Q3s (n : Int) : Prop := -9223372036854775808 ≤ n ∧ n ≤ 9223372036854775807
def okU8 (n : Int) : Prop := 0 ≤ n ∧ n ≤ 255
theorem okI.i64 {n : Int} (h : okI .i64 n) : Q3s n := by
 unfold okI at h
 simp [Lit.wf, IntKind.min, IntKind.max, IntKind.signed, IntKind.bits] at h
 exact h
theorem okI.u8 {n : Int} (h : okI .u8 n) : okU8 n := by
 unfold okI at h
 simp [Lit.wf, IntKind.min, IntKind.max, IntKind.signed, IntKind.bits] at h
 unfold okU8
 omega
def okS (s : ByteArray) : Prop := s.size ≤ 140737488351232
def okL {α : Type} (bytes : Nat) (ok : α → Prop) (l : List α) : Prop := l.length * bytes ≤ 140737488351232 ∧ ∀ x ∈ l, ok x
section
variable {Γ : Nat → Option Ty}
theorem OfL.Q13 {f : Ty} {fs : List Ty} {c : List PV} (h : OfL Γ (f :: fs) c) : ∃ a b, c = a ++ b ∧ Of Γ f a ∧ OfL Γ fs b := by
 cases h with
 | cons _ _ a b h1 h2 => exact ⟨a, b, rfl, h1, h2⟩
theorem OfL.empty {c : List PV} (h : OfL Γ [] c) : c = [] := by cases h; rfl
theorem Of.str1 {c : List PV} (h : Of Γ .str c) : ∃ s, c = [.str s] ∧ okS s := by
 cases h with
 | str s h => exact ⟨s, rfl, h⟩
theorem Of.Q1qq {c : List PV} (h : Of Γ .bool c) : ∃ b, c = [.bool b] := by
 cases h with
 | bool b => exact ⟨b, rfl⟩
theorem Of.bool2 {c : List PV} (h : Of Γ .bool c) : ∃ b, c = [.bool b] ∧ True := by
 obtain ⟨b, hb⟩ := h.Q1qq
 exact ⟨b, hb, trivial⟩
theorem Of.int1 {k : IntKind} {c : List PV} (h : Of Γ (.int k) c) : ∃ n, c = [.int k n] ∧ okI k n := by
 cases h with
 | int _ n h => exact ⟨n, rfl, h⟩
theorem Of.i64 {c : List PV} (h : Of Γ (.int .i64) c) : ∃ n, c = [.int .i64 n] ∧ Q3s n := by
 obtain ⟨n, h1, h2⟩ := h.int1
 exact ⟨n, h1, h2.i64⟩
theorem Of.u8 {c : List PV} (h : Of Γ (.int .u8) c) : ∃ n, c = [.int .u8 n] ∧ okU8 n := by
 obtain ⟨n, h1, h2⟩ := h.int1
 exact ⟨n, h1, h2.u8⟩
theorem Of.st1 {fs : List Ty} {c : List PV} (h : Of Γ (.st fs) c) : OfL Γ fs c := by
 cases h with
 | st _ _ h => exact h
theorem Qkq {α : Type} {f : α → List PV} {ok : α → Prop} : ∀ (l : List (List PV)), (∀ r ∈ l, ∃ x, r = f x ∧ ok x) → ∃ xs : List α, l = xs.map f ∧ ∀ x ∈ xs, ok x
  | [], _ => ⟨[], rfl, fun _ h => absurd h List.not_mem_nil⟩
  | r :: rs, h => by
    obtain ⟨x, hx, hok⟩ := h r List.mem_cons_self
    obtain ⟨xs, hxs, hoks⟩ := Qkq rs (fun q hq => h q (List.mem_cons_of_mem _ hq))
    refine ⟨x :: xs, by rw [hx, hxs]; rfl, fun y hy => ?_⟩
    rcases List.mem_cons.1 hy with rfl | hy
    · exact hok
    · exact hoks y hy
theorem Of.sl1 {bytes : Nat} {e : Ty} {c : List PV} {α : Type} {f : α → List PV} {ok : α → Prop} (h : Of Γ (.sl bytes e) c) (he : ∀ r, Of Γ e r → ∃ x, r = f x ∧ ok x) : ∃ xs : List α, c = [.sl (xs.map f)] ∧ okL bytes ok xs := by
 cases h with
 | sl _ _ l h hl =>
  obtain ⟨xs, rfl, hok⟩ := Qkq l (fun r hr => he r (hl r hr))
  exact ⟨xs, rfl, by simpa using h, hok⟩
theorem Arg.one {ty : Ty} {p : PV} (h : Arg Γ ty p) (hs : ty.isSt Γ = false) : Of Γ ty [p] := by
 obtain ⟨c, hc, hp⟩ := h
 rw [hs] at hp
 have hp : c = [p] := hp
 subst hp
 exact hc
theorem Arg.agg {ty : Ty} {p : PV} (h : Arg Γ ty p) (hs : ty.isSt Γ = true) : ∃ c, p = .agg c ∧ Of Γ ty c := by
 obtain ⟨c, hc, hp⟩ := h
 rw [hs] at hp
 exact ⟨c, hp, hc⟩
end
end Go.Pv
end

section
/-
  Strings: equality and order.
-/
namespace Go.Pv
theorem Qzo (b : ByteArray) : ∀ (n i : Nat) (acc : List UInt8), b.size - i = n → ByteArray.toList.loop b i acc = acc.reverse ++ b.data.toList.drop i := by
 intro n
 induction n with
 | zero =>
  intro i acc h
  unfold ByteArray.toList.loop
  have h1 : ¬ i < b.size := by omega
  rw [if_neg h1]
  have : b.data.toList.drop i = [] := by
   rw [List.drop_eq_nil_iff]
   have : b.data.toList.length = b.size := Array.length_toList
   omega
  rw [this, List.append_nil]
 | succ n ih =>
  intro i acc h
  unfold ByteArray.toList.loop
  have h1 : i < b.size := by omega
  rw [if_pos h1, ih (i + 1) _ (by omega)]
  have hl : i < b.data.toList.length := by rw [show b.data.toList.length = b.size from Array.length_toList]; exact h1
  rw [List.drop_eq_getElem_cons hl, List.reverse_cons, List.append_assoc]
  congr 1
  simp only [List.singleton_append, List.cons.injEq, and_true]
  have : b.data.size = b.size := rfl
  simp [ByteArray.get!, h1, this]
theorem toList_data (b : ByteArray) : b.toList = b.data.toList := by
 unfold ByteArray.toList
 rw [Qzo b _ 0 [] rfl]
 simp
theorem toList_inj {a b : ByteArray} (h : a.toList = b.toList) : a = b := by
 rw [toList_data, toList_data] at h
 cases a
 cases b
 simp at h
 rw [h]
theorem Q8n {a b : ByteArray} : sEq a b = true ↔ a = b := by
 unfold sEq
 rw [beq_iff_eq]
 exact ⟨toList_inj, fun h => by rw [h]⟩
theorem Q2c (a : ByteArray) : sEq a a = true := Q8n.2 rfl
mutual
inductive Val where
 | mk (kind n : Int) (s : ByteArray) (list : List Val) (fields : List Fld)
inductive Fld where
 | mk (name : ByteArray) (v : Val)
end
def Val.kind : Val → Int
 | .mk k _ _ _ _ => k
def Val.n : Val → Int
 | .mk _ n _ _ _ => n
def Val.s : Val → ByteArray
 | .mk _ _ s _ _ => s
def Val.list : Val → List Val
 | .mk _ _ _ l _ => l
def Val.fields : Val → List Fld
 | .mk _ _ _ _ f => f
def Fld.name : Fld → ByteArray
 | .mk n _ => n
def Fld.v : Fld → Val
 | .mk _ v => v
mutual
def Val.cs : Val → List PV
 | .mk k n s l f => [.int .i64 k, .int .i64 n, .str s, .sl (Val.css l), .sl (Fld.css f)]
def Val.css : List Val → List (List PV)
 | [] => []
 | v :: r => v.cs :: Val.css r
def Fld.css : List Fld → List (List PV)
 | [] => []
 | f :: r => f.cs :: Fld.css r
def Fld.cs : Fld → List PV
 | .mk n v => .str n :: v.cs
end
def Val.rows (l : List Val) : List (List PV) := Val.css l
def Fld.rows (l : List Fld) : List (List PV) := Fld.css l
def Val.cells (v : Val) : List PV := [.int .i64 v.kind, .int .i64 v.n, .str v.s, .sl (Val.rows v.list), .sl (Fld.rows v.fields)]
def Fld.cells (f : Fld) : List PV := [.str f.name, .int .i64 f.v.kind, .int .i64 f.v.n, .str f.v.s, .sl (Val.rows f.v.list), .sl (Fld.rows f.v.fields)]
theorem Val.Q1hp (v : Val) : v.cs = v.cells := by cases v; rfl
theorem Fld.Q1hp (f : Fld) : f.cs = f.cells := by
 cases f with
 | mk n v => cases v; rfl
theorem Val.Q3b : Val.rows [] = [] := rfl
theorem Fld.Q3b : Fld.rows [] = [] := rfl
theorem Val.Q2p (v : Val) (l : List Val) : Val.rows (v :: l) = v.cells :: Val.rows l := by
 rw [← Val.Q1hp]
 rfl
theorem Fld.Q2p (v : Fld) (l : List Fld) : Fld.rows (v :: l) = v.cells :: Fld.rows l := by
 rw [← Fld.Q1hp]
 rfl
theorem Val.Q3j : ∀ l : List Val, Val.rows l = l.map Val.cells
 | [] => rfl
 | v :: r => by rw [Val.Q2p, Val.Q3j r]; rfl
theorem Fld.Q3j : ∀ l : List Fld, Fld.rows l = l.map Fld.cells
 | [] => rfl
 | v :: r => by rw [Fld.Q2p, Fld.Q3j r]; rfl
theorem Val.Q0 (l : List Val) : (Val.rows l).length = l.length := by simp [Val.Q3j]
theorem Fld.Q0 (l : List Fld) : (Fld.rows l).length = l.length := by simp [Fld.Q3j]
theorem Val.Qb {l : List Val} {i : Nat} {x : Val} (h : l[i]? = some x) : (Val.rows l)[i]? = some (Val.cells x) := by rw [Val.Q3j]; exact Go.Pv.Qb h
theorem Fld.Qb {l : List Fld} {i : Nat} {x : Fld} (h : l[i]? = some x) : (Fld.rows l)[i]? = some (Fld.cells x) := by rw [Fld.Q3j]; exact Go.Pv.Qb h
theorem Val.Q15 (l : List Val) (x : Val) : Val.rows (l ++ [x]) = Val.rows l ++ [Val.cells x] := by simp [Val.Q3j]
theorem Fld.Q15 (l : List Fld) (x : Fld) : Fld.rows (l ++ [x]) = Fld.rows l ++ [Fld.cells x] := by simp [Fld.Q3j]
theorem Val.Q2t (l : List Val) (n : Nat) : Val.rows (l.take n) = (Val.rows l).take n := by simp [Val.Q3j, List.map_take]
theorem Fld.Q2t (l : List Fld) (n : Nat) : Fld.rows (l.take n) = (Fld.rows l).take n := by simp [Fld.Q3j, List.map_take]
theorem Val.Q2u (l : List Val) (n : Nat) : Val.rows (l.drop n) = (Val.rows l).drop n := by simp [Val.Q3j, List.map_drop]
theorem Fld.Q2u (l : List Fld) (n : Nat) : Fld.rows (l.drop n) = (Fld.rows l).drop n := by simp [Fld.Q3j, List.map_drop]
theorem Val.Q2k (l m : List Val) : Val.rows (l ++ m) = Val.rows l ++ Val.rows m := by simp [Val.Q3j]
theorem Fld.Q2k (l m : List Fld) : Fld.rows (l ++ m) = Fld.rows l ++ Fld.rows m := by simp [Fld.Q3j]
theorem Val.Qd (l : List Val) : ∀ r ∈ Val.rows l, r.length = 5 := by rw [Val.Q3j]; exact Q35 (f := Val.cells) (fun _ => rfl) l
theorem Fld.Qd (l : List Fld) : ∀ r ∈ Fld.rows l, r.length = 6 := by rw [Fld.Q3j]; exact Q35 (f := Fld.cells) (fun _ => rfl) l
theorem Val.Q7 (l : List Val) (sz : Nat) (h : sz = 5) : ViewOK sz (Val.rows l).flatten (Val.rows l) := by subst h; exact ⟨rfl, Val.Qd l, by rw [Val.Q3j]; exact Q2o (f := Val.cells) (fun _ => rfl) l⟩
theorem Fld.Q7 (l : List Fld) (sz : Nat) (h : sz = 6) : ViewOK sz (Fld.rows l).flatten (Fld.rows l) := by subst h; exact ⟨rfl, Fld.Qd l, by rw [Fld.Q3j]; exact Q2o (f := Fld.cells) (fun _ => rfl) l⟩
theorem Val.Qrl (v : Val) : SizeOf.sizeOf v.list < SizeOf.sizeOf v := by
 cases v with
 | mk k n s l f => simp only [Val.list, Val.mk.sizeOf_spec]; omega
theorem Val.Qcr (v : Val) : SizeOf.sizeOf v.fields < SizeOf.sizeOf v := by
 cases v with
 | mk k n s l f => simp only [Val.fields, Val.mk.sizeOf_spec]; omega
theorem Fld.lt_v (f : Fld) : SizeOf.sizeOf f.v < SizeOf.sizeOf f := by
 cases f with
 | mk n v => simp only [Fld.v, Fld.mk.sizeOf_spec]; omega
theorem szL {v x : Val} {i : Nat} (h : v.list[i]? = some x) : SizeOf.sizeOf x < SizeOf.sizeOf v :=
 Nat.lt_trans (List.sizeOf_lt_of_mem (Q2e h)) v.Qrl
theorem szF {v : Val} {x : Fld} {i : Nat} (h : v.fields[i]? = some x) : SizeOf.sizeOf x.v < SizeOf.sizeOf v :=
 Nat.lt_trans x.lt_v (Nat.lt_trans (List.sizeOf_lt_of_mem (Q2e h)) v.Qcr)
inductive Val.Sm (B : Nat) : Val → Prop
  | mk (v : Val) (hl : v.list.length ≤ B) (hf : v.fields.length ≤ B) (sl : ∀ x ∈ v.list, Val.Sm B x) (sf : ∀ x ∈ v.fields, Val.Sm B x.v) : Val.Sm B v
theorem Val.Sm.all {B : Nat} {v : Val} (h : Val.Sm B v) : v.list.length ≤ B ∧ v.fields.length ≤ B ∧ (∀ x ∈ v.list, Val.Sm B x) ∧ (∀ x ∈ v.fields, Val.Sm B x.v) := by
 cases h with
 | mk _ h1 h2 h3 h4 => exact ⟨h1, h2, h3, h4⟩
theorem Val.Sm.mono {B C : Nat} (hb : B ≤ C) {v : Val} (h : Val.Sm B v) : Val.Sm C v := by
 induction h with
 | mk v h1 h2 _ _ i1 i2 => exact .mk v (by omega) (by omega) i1 i2
theorem Val.Sm.leaf {B : Nat} (k n : Int) (s : ByteArray) : Val.Sm B (.mk k n s [] []) := .mk _ (Nat.zero_le _) (Nat.zero_le _) (fun _ h => by cases h) (fun _ h => by cases h)
theorem Val.Sm.getD {B : Nat} {l : List Val} (h : ∀ x ∈ l, Val.Sm B x) (i : Nat) (k n : Int) (s : ByteArray) : Val.Sm B (l.getD i (.mk k n s [] [])) := by
  by_cases c : i < l.length
  · have := Q21 l i (.mk k n s [] []) c
    exact h _ (Q2e this)
  · rw [List.getD_eq_getElem?_getD, List.getElem?_eq_none (by omega)]
    exact .leaf k n s
inductive Qcn : Val → Prop
  | mk (v : Val) (h1 : Q3s v.kind) (h2 : Q3s v.n) (h3 : okS v.s) (hl : v.list.length * 80 ≤ 140737488351232) (hf : v.fields.length * 96 ≤ 140737488351232) (sl : ∀ x ∈ v.list, Qcn x) (sn : ∀ x ∈ v.fields, okS x.name) (sf : ∀ x ∈ v.fields, Qcn x.v) : Qcn v
theorem Qcn.all {v : Val} (h : Qcn v) : Q3s v.kind ∧ Q3s v.n ∧ okS v.s ∧ v.list.length * 80 ≤ 140737488351232 ∧ v.fields.length * 96 ≤ 140737488351232 ∧ (∀ x ∈ v.list, Qcn x) ∧ (∀ x ∈ v.fields, okS x.name ∧ Qcn x.v) := by
 cases h with
 | mk _ a b c d e f n g => exact ⟨a, b, c, d, e, f, fun x hx => ⟨n x hx, g x hx⟩⟩
theorem Qcn.sm {v : Val} (h : Qcn v) : Val.Sm 4611686018427387904 v := by
 induction h with
 | mk v _ _ _ hl hf _ _ _ i1 i2 => exact .mk v (by omega) (by omega) i1 i2
def Q10l (t : Nat) : Ty := .st [.int .i64, .int .i64, .str, .sl 80 (.nm t), .sl 96 (.st [.str, .nm t])]
theorem Qk4 {α : Type} [SizeOf α] (x : α) (r : List α) : SizeOf.sizeOf x < SizeOf.sizeOf (x :: r) := by
 simp only [List.cons.sizeOf_spec]
 omega
theorem Qs6 {α : Type} [SizeOf α] (x : α) (r : List α) : SizeOf.sizeOf r < SizeOf.sizeOf (x :: r) := by
 simp only [List.cons.sizeOf_spec]
 omega
theorem Qfw (x : Fld) (r : List Fld) : SizeOf.sizeOf x.v < SizeOf.sizeOf (x :: r) := Nat.lt_trans x.lt_v (Qk4 x r)
def gam (t : Nat) : Nat → Option Ty := fun k => bif Nat.beq k t then some (Q10l t) else none
theorem gam_tab {P : Program} {t : Nat} (h : Qag P (gam t) (Q10l t) t = true) : TabOK P (gam t) := by
 intro k ty hk
 unfold gam at hk
 cases c : Nat.beq k t with
 | false => rw [c] at hk; cases hk
 | true =>
  rw [c] at hk
  simp only [cond_true, Option.some.injEq] at hk
  subst hk
  rw [Nat.eq_of_beq_eq_true c]
  exact ⟨rfl, h⟩
end Go.Pv
namespace Go.Pv
theorem Q6r {G : Nat → Option Fun} {e e' : En} {r : Rs} (h : Q6 G e r) (he : e = e') : Q6 G e' r := he ▸ h
end Go.Pv
end

section
/- Strings byte by byte; rows that are cloned. -/
namespace Go.Pv
theorem Qod : ∀ p, plain p = true → bare p = true := fun p h => by cases p <;> first | rfl | (cases h)
theorem Q7y {G : Nat → Option Fun} {f sz bytes : Nat} (hG : G f = some (.ax (Qj5 sz bytes))) {rows : List (List PV)} {n : Nat} (hn : rows.length = n) (hv : ViewOK sz rows.flatten rows) (hb : n * bytes ≤ 140737488355328) :
  Q6 G (.call f [.sl rows] []) (.ret (.ms 0 sz 0 n) [⟨sz, 0, true, rows.flatten⟩]) := by
 refine ⟨1, ?_⟩
 subst hn
 simp only [runs, phi, hG, Qj5]
 have h1 : Q5y rows sz = true := Q91 hv.size
 have h2 : rows.flatten.all bare = true := List.all_eq_true.2 fun p hp => Qod p (hv.all p hp)
 rw [h1, h2, Nat.ble_eq_true_of_le hb]
 rfl
theorem Q74 {G : Nat → Option Fun} {f sz bytes : Nat} (hG : G f = some (.ax (Qln sz bytes))) {rows : List (List PV)} {n : Nat} (hn : rows.length = n) (hv : ViewOK sz rows.flatten rows) (hb : n * bytes ≤ 140737488355328) :
  Q6 G (.call f [.sl rows] []) (.ret (.sl rows) []) := by
 refine ⟨1, ?_⟩
 subst hn
 simp only [runs, phi, hG, Qln]
 have h1 : Q5y rows sz = true := Q91 hv.size
 have h2 : rows.flatten.all bare = true := List.all_eq_true.2 fun p hp => Qod p (hv.all p hp)
 rw [h1, h2, Nat.ble_eq_true_of_le hb]
 rfl
end Go.Pv
namespace Go.Pv
theorem szM {v x : Val} (h : x ∈ v.list) : SizeOf.sizeOf x < SizeOf.sizeOf v := Nat.lt_trans (List.sizeOf_lt_of_mem h) v.Qrl
theorem szN {v : Val} {x : Fld} (h : x ∈ v.fields) : SizeOf.sizeOf x.v < SizeOf.sizeOf v := Nat.lt_trans x.lt_v (Nat.lt_trans (List.sizeOf_lt_of_mem h) v.Qcr)
end Go.Pv
end

section
/- Arrays of bools, asked at an index of a loop. -/
namespace Go.Pv
def zr (z : Nat → PV) (i : Nat) : Nat → List PV
 | 0 => []
 | k + 1 => z i :: zr z (i + 1) k
end Go.Pv
end

section
/-
  What a law is handed, where its bulk is bounded: nothing within is longer.
-/
namespace Go.Pv
open Go.RowKit
inductive Cap (N : Nat) : PV → Prop
  | bool (b : Bool) : Cap N (.bool b)
  | int (k : IntKind) (n : Int) : Cap N (.int k n)
  | str (s : ByteArray) (h : s.size ≤ N) : Cap N (.str s)
  | sl (l : List (List PV)) (h : l.length ≤ N) (hl : ∀ r ∈ l, ∀ p ∈ r, Cap N p) : Cap N (.sl l)
def CapL (N : Nat) (c : List PV) : Prop := ∀ p ∈ c, Cap N p
theorem CapL.one {N : Nat} {p : PV} (h : Cap N p) : CapL N [p] := fun q hq => by
 rw [List.mem_singleton] at hq
 subst hq
 exact h
inductive CapD {H : Type} (N : Nat) : DataW H → Prop
  | lit (l : Lit) (h : ∀ b, l = .string b → b.length ≤ N) : CapD N (.lit l)
  | agg (parts : List (DataW H)) (h : ∀ d ∈ parts, CapD N d) : CapD N (.agg parts)
  | slice (elems spare : List (DataW H)) (h : elems.length ≤ N) (hl : ∀ d ∈ elems, CapD N d) : CapD N (.slice elems spare)
  | nil : CapD N .nil
  | ptr (d : DataW H) : CapD N (.ptr d)
  | iface (t : String) (d : DataW H) : CapD N (.iface t d)
  | map (e : List (Lit × DataW H)) : CapD N (.map e)
  | held (h : H) : CapD N (.held h)
def ArgB (Γ : Nat → Option Ty) (N : Nat) (ty : Ty) (p : PV) : Prop := ∃ c, Of Γ ty c ∧ CapL N c ∧ (bif ty.isSt Γ then p = .agg c else c = [p])
def Q1au (Γ : Nat → Option Ty) (N : Nat) : List Ty → List PV → Prop
 | [], [] => True
 | t :: ts, p :: ps => ArgB Γ N t p ∧ Q1au Γ N ts ps
 | _, _ => False
section
variable {H : Type} {enc : TypeId × Value → H} {P : Program} {w : World} {base : Nat} {sp : Nat → Bool} {held : Bool} {Γ : Nat → Option Ty} {N : Nat}
theorem Qee {n : Nat} {cs : List Value} (ih : ∀ (ty : Ty) (t : TypeId) (cs : List Value) (x : DataW H × List MemPlace), Qag P Γ ty t = true → DataW.trod enc P w base sp held n t cs = some x → Light P t x.1 → CapD N x.1 → ∃ c, RepN w NoM NoD cs c ∧ Of Γ ty c ∧ CapL N c) :
  ∀ (fs : List Ty) (gs : List Field) (off : Nat) (ys : List (DataW H × List MemPlace)), Qwb P Γ fs gs off cs.length = true → ys.length = gs.length → (∀ (j : Nat) g, gs[j]? = some g → DataW.trod enc P w base sp held n g.type ((cs.drop g.offset).take (P.cellsOf g.type)) = ys[j]?) →
   (∀ (j : Nat) g y, gs[j]? = some g → ys[j]? = some y → Light P g.type y.1 ∧ CapD N y.1) → ∃ c, RepN w NoM NoD (cs.drop off) c ∧ OfL Γ fs c ∧ CapL N c
 | [], [], off, ys, hc, _, _, _ => by
  simp only [Qwb] at hc
  have := Nat.eq_of_beq_eq_true hc
  refine ⟨[], ?_, .nil, fun p hp => absurd hp List.not_mem_nil⟩
  rw [this, List.drop_length]
  exact ⟨rfl, fun i v p h => by simp at h⟩
 | [], _ :: _, off, ys, hc, _, _, _ => by cases hc
 | _ :: _, [], off, ys, hc, _, _, _ => by cases hc
 | f :: fs, g :: gs, off, [], hc, hl, _, _ => by simp at hl
 | f :: fs, g :: gs, off, y :: ys, hc, hl, ht, hw => by
  simp only [Qwb, Bool.and_eq_true] at hc
  have ho := Nat.eq_of_beq_eq_true hc.1.1
  have h0 := ht 0 g rfl
  simp only [List.getElem?_cons_zero] at h0
  obtain ⟨a, ha, hoa, hca⟩ := ih f g.type _ y hc.1.2 h0 (hw 0 g y rfl rfl).1 (hw 0 g y rfl rfl).2
  obtain ⟨b, hb, hob, hcb⟩ := Qee ih fs gs (off + P.cellsOf g.type) ys hc.2 (by simpa using hl) (fun j g' hj => by have := ht (j + 1) g' (by simpa using hj); simpa using this) (fun j g' y' h1 h2 => hw (j + 1) g' y' (by simpa using h1) (by simpa using h2))
  refine ⟨a ++ b, ?_, .cons f fs a b hoa hob, fun p hp => (List.mem_append.1 hp).elim (hca p) (hcb p)⟩
  have : cs.drop off = (cs.drop off).take (P.cellsOf g.type) ++ cs.drop (off + P.cellsOf g.type) := by
   rw [← List.drop_drop]
   exact (List.take_append_drop _ _).symm
  rw [this]
  rw [ho] at ha
  exact ha.app hb
theorem Q1cm (hΓ : TabOK P Γ) : ∀ (fuel : Nat) (ty : Ty) (t : TypeId) (cs : List Value) (x : DataW H × List MemPlace), Qag P Γ ty t = true → DataW.trod enc P w base sp held fuel t cs = some x → Light P t x.1 → CapD N x.1 → ∃ c, RepN w NoM NoD cs c ∧ Of Γ ty c ∧ CapL N c := by
  intro fuel
  induction fuel with
  | zero => intro ty t cs x _ h; simp [DataW.trod] at h
  | succ n ih =>
    have core : ∀ (ty : Ty) (t : TypeId) (cs : List Value) (x : DataW H × List MemPlace), ty.named = false → Qag P Γ ty t = true → DataW.trod enc P w base sp held (n + 1) t cs = some x → Light P t x.1 → CapD N x.1 → ∃ c, RepN w NoM NoD cs c ∧ Of Γ ty c ∧ CapL N c := by
      intro ty t cs x hn hc h hw hcd
      cases ty with
      | nm t' => cases hn
      | bool =>
        simp only [Qag] at hc
        obtain ⟨b, rfl, rfl⟩ := DataW.trod_bool (Qcq hc) h
        exact ⟨_, .one rfl (.bool _ _), .bool b, CapL.one (.bool b)⟩
      | int k =>
        simp only [Qag] at hc
        obtain ⟨m, rfl, rfl, hwf⟩ := DataW.trod_int (Qo2 hc) h
        exact ⟨_, .one rfl (.int _ _ _), .int k m hwf, CapL.one (.int k m)⟩
      | str =>
        simp only [Qag] at hc
        obtain ⟨s, rfl, rfl, hs⟩ := DataW.trod_string (Q6t hc) h
        refine ⟨_, .one rfl (.str _ _), .str s ?_, CapL.one (.str s (by cases hcd with | lit _ h => simpa using h _ rfl))⟩
        simp only [Light, DataW.weights, List.all_cons, Bool.and_eq_true, decide_eq_true_eq] at hw
        have := hw.1
        unfold reachBytes at this
        simpa using this
      | sl bytes e =>
        simp only [Qag] at hc
        split at hc
        · rename_i te hu
          rw [Bool.and_eq_true, Bool.and_eq_true] at hc
          have hby := Nat.eq_of_beq_eq_true hc.1.1
          have hsz := Nat.le_of_ble_eq_true hc.1.2
          rcases DataW.trod_slice hu h with ⟨rfl, rfl⟩ | ⟨a, len, cap, elems, rest, n', hn', rfl, rfl, hb, hl, hm, hlen, hel, _, _⟩
          · refine ⟨[.sl []], .one rfl (.sl _ _ _ _ 0 [] 0 0 (fun _ _ => default) rfl (Nat.le_refl _) (Nat.zero_le _) (fun r hr => absurd hr List.not_mem_nil) (fun h => by omega) (fun j r hj => by simp at hj) (fun j r hj => by simp at hj)), .sl _ _ [] (by simp) (fun r hr => absurd hr List.not_mem_nil), CapL.one (.sl [] (Nat.zero_le _) (fun r hr => absurd hr List.not_mem_nil))⟩
          · have hnn : n' = n := by omega
            subst hnn
            simp only [Light, DataW.weights, hu, List.all_cons, List.all_append, Bool.and_eq_true, decide_eq_true_eq, List.length_map] at hw
            obtain ⟨hw1, hw2, _⟩ := hw
            have hlight := Q1a4 hw2
            have hcap : elems.length ≤ N ∧ ∀ z ∈ elems, CapD N z.1 := by
              cases hcd with
              | slice _ _ h1 h2 => exact ⟨by simpa using h1, fun z hz => h2 _ (List.mem_map.2 ⟨z, hz, rfl⟩)⟩
            have each : ∀ i, i < len → ∃ r, (∃ ys, w.cells? base (a.add (i * P.cellsOf te)) (P.cellsOf te) = some ys ∧ RepN w NoM NoD ys r) ∧ Of Γ e r ∧ CapL N r := by
              intro i hi
              have h1 := hel i hi
              have hi' : i < elems.length := by omega
              rw [List.getElem?_eq_getElem hi'] at h1
              obtain ⟨ys, hy1, hy2⟩ := Option.bind_eq_some_iff.1 h1
              obtain ⟨r, hr, hor⟩ := ih e te ys _ hc.2 hy2 (hlight _ (List.mem_map.2 ⟨_, List.getElem_mem hi', rfl⟩)) (hcap.2 _ (List.getElem_mem hi'))
              exact ⟨r, ⟨ys, hy1, hr⟩, hor⟩
            obtain ⟨l, hll, hlq⟩ := Qlu len each
            have hcellsz : ∀ i ys, i < len → w.cells? base (a.add (i * P.cellsOf te)) (P.cellsOf te) = some ys → ys.length = P.cellsOf te ∧ ∀ j, j < P.cellsOf te → w.cell? ((a.add (i * P.cellsOf te)).add j) = ys[j]? := by
              intro i ys _ hy
              have := World.cells?_some hy
              exact ⟨this.2.1, this.2.2⟩
            have hspot : 0 < len → a = ⟨a.block, a.off, none⟩ := by
              intro hpos
              obtain ⟨r, ⟨ys, hy, hr⟩, _⟩ := each 0 hpos
              obtain ⟨hyl, hyc⟩ := hcellsz 0 ys hpos hy
              have h0 := hyc 0 (by omega)
              rw [List.getElem?_eq_getElem (by omega)] at h0
              simp only [Nat.zero_mul, Addr.add, if_true] at h0
              obtain ⟨b, o, s⟩ := a
              cases s with
              | none => rfl
              | some s =>
                simp only [World.cell?] at h0
                split at h0 <;> simp at h0
            have hadd : ∀ i j, 0 < len → (a.add (i * P.cellsOf te)).add j = ⟨a.block, a.off + i * P.cellsOf te + j, none⟩ := by
              intro i j hpos
              rw [hspot hpos]
              unfold Addr.add
              by_cases h1 : i * P.cellsOf te = 0 <;> by_cases h2 : j = 0 <;> simp [h1, h2]
            refine ⟨[.sl l], .one rfl (.sl _ (some a) len cap (P.cellsOf te) l a.block a.off (fun j i => (w.cell? ⟨a.block, a.off + j * P.cellsOf te + i, none⟩).getD default) hll hl hm ?_ (fun hp => congrArg some (hspot hp)) ?_ ?_), .sl bytes e l ?_ ?_, CapL.one (.sl l (by rw [hll]; omega) (fun r hr => by
              obtain ⟨i, hi⟩ := List.getElem?_of_mem hr
              exact (hlq i r hi).2.2))⟩
            · intro r hr
              obtain ⟨i, hi⟩ := List.getElem?_of_mem hr
              have hil := (List.getElem?_eq_some_iff.1 hi).1
              obtain ⟨⟨ys, hy, hrn⟩, _⟩ := hlq i r hi
              rw [← hrn.1]
              exact (hcellsz i ys (by omega) hy).1
            · intro j r hj i p hi
              have hjl := (List.getElem?_eq_some_iff.1 hj).1
              have hil := (List.getElem?_eq_some_iff.1 hi).1
              obtain ⟨⟨ys, hy, hrn⟩, _⟩ := hlq j r hj
              obtain ⟨hyl, hyc⟩ := hcellsz j ys (by omega) hy
              have hiy : i < ys.length := by rw [hrn.1]; exact hil
              have := hyc i (by omega)
              rw [hadd j i (by omega), List.getElem?_eq_getElem hiy] at this
              refine ⟨fun h => h, by rw [this]; rfl, ?_⟩
              rw [this]
              exact (hrn.2 i _ p (List.getElem?_eq_getElem hiy) hi).1
            · intro j r hj i p hi
              have hjl := (List.getElem?_eq_some_iff.1 hj).1
              have hil := (List.getElem?_eq_some_iff.1 hi).1
              obtain ⟨⟨ys, hy, hrn⟩, _⟩ := hlq j r hj
              obtain ⟨hyl, hyc⟩ := hcellsz j ys (by omega) hy
              have hiy : i < ys.length := by rw [hrn.1]; exact hil
              have := hyc i (by omega)
              rw [hadd j i (by omega), List.getElem?_eq_getElem hiy] at this
              rw [this]
              exact (hrn.2 i _ p (List.getElem?_eq_getElem hiy) hi).2
            · rw [← hby, hll]
              unfold reachBytes at hw1
              have : len * P.bytesOf te ≤ (elems.length + rest.length) * P.bytesOf te := Nat.mul_le_mul_right _ (by omega)
              omega
            · intro r hr
              obtain ⟨i, hi⟩ := List.getElem?_of_mem hr
              exact (hlq i r hi).2.1
        · cases hc
      | st fs =>
        simp only [Qag] at hc
        split at hc
        · rename_i gs hu
          obtain ⟨xs, n', hn', rfl, hl, hxl, hx⟩ := DataW.trod_struct hu h
          have hnn : n' = n := by omega
          subst hnn
          rw [← hl] at hc
          simp only [Light, DataW.weights, hu] at hw
          have hlight := Q14j hw
          have hcap : ∀ z ∈ xs, CapD N z.1 := by
            cases hcd with
            | agg _ h => exact fun z hz => h _ (List.mem_map.2 ⟨z, hz, rfl⟩)
          obtain ⟨c, hr, ho, hcc⟩ := Qee ih fs gs.toList 0 xs hc (by simpa using hxl) (fun j g hj => hx j g (by simpa using hj)) (fun j g y hj hy => ⟨hlight j g.type y.1 (by simp [hj]) (by simp [hy]), hcap y (List.mem_of_getElem? hy)⟩)
          exact ⟨c, by simpa using hr, .st fs c ho, hcc⟩
        · cases hc
    intro ty t cs x hc h hw hcd
    cases hty : ty.named with
    | false => exact core ty t cs x hty hc h hw hcd
    | true =>
      cases ty with
      | nm t' =>
        simp only [Qag, Bool.and_eq_true] at hc
        have := Nat.eq_of_beq_eq_true hc.1
        subst this
        obtain ⟨ty', hty'⟩ := Option.isSome_iff_exists.1 hc.2
        obtain ⟨h1, h2⟩ := hΓ _ _ hty'
        obtain ⟨c, hr, ho, hcc⟩ := core ty' t' cs x h1 h2 h hw hcd
        exact ⟨c, hr, .nm t' ty' c hty' ho, hcc⟩
      | _ => cases hty
theorem Q191 (hΓ : TabOK P Γ) {ty : Ty} {t : TypeId} (hc : Qag P Γ ty t = true) (hs : (match P.underlying t with | some (.struct _) => ty.isSt Γ | some (.array _ _) => false | _ => !(ty.isSt Γ)) = true) {r : Reach} {b0 : Nat} {v : Value} {d : DataW H} {ps : List MemPlace} (hval : Value.okWide P w r b0 t v) (h : DataW.Trod enc P w base sp held t v d ps) (hw : Light P t d) (hcd : CapD N d) :
    ∃ p, Rep w NoM NoD v p ∧ ArgB Γ N ty p := by
  obtain ⟨fuel, hf⟩ := h
  obtain ⟨c, hr, ho, hcc⟩ := Q1cm hΓ fuel ty t _ _ hc hf hw hcd
  unfold Value.okWide at hval
  split at hs
  · rename_i fs hu
    rw [hu] at hval
    obtain ⟨cs, rfl, _, _⟩ := hval
    refine ⟨.agg c, .agg _ cs c (by simpa [Value.cells] using hr.1) (fun i v p hv hp => (hr.2 i v p (by simpa [Value.cells] using hv) hp).1) (fun i v p hv hp => (hr.2 i v p (by simpa [Value.cells] using hv) hp).2), c, ho, hcc, ?_⟩
    rw [hs]
    rfl
  · cases hs
  · rename_i hn1 hn2
    have hcell : Cell.okWide P w r b0 t v := by
      split at hval
      · rename_i fs hu; exact absurd hu (hn1 fs)
      · rename_i k e hu; exact absurd hu (hn2 k e)
      · exact hval
    have hone : v.oneCell' = true := by
      cases v with
      | agg cs => unfold Cell.okWide Cell.ok at hcell; split at hcell <;> simp_all
      | tuple cs => unfold Cell.okWide Cell.ok at hcell; split at hcell <;> simp_all
      | _ => rfl
    have hcs : v.cells.toList = [v] := by cases v <;> first | rfl | (cases hone)
    rw [hcs] at hr
    have hlen := hr.1
    cases c with
    | nil => simp at hlen
    | cons p rest =>
      have : rest = [] := List.eq_nil_of_length_eq_zero (by simpa using hlen.symm)
      subst this
      refine ⟨p, (hr.2 0 v p rfl rfl).2, [p], ho, hcc, ?_⟩
      have : ty.isSt Γ = false := by simpa using hs
      rw [this]
      rfl
theorem open_args2 (hΓ : TabOK P Γ) {r : Reach} {b0 : Nat} : ∀ {tys : List Ty} {ts : List TypeId} {vs : List Value} {ds : List (DataW H)} {ps : List MemPlace}, chkArgs P Γ tys ts = true → (∀ (j : Nat) t v, ts[j]? = some t → vs[j]? = some v → Value.okWide P w r b0 t v) → DataW.TrodAll enc P w base sp held ts vs ds ps →
    (DataW.weightsEach P ts ds).all (· ≤ reachBytes) = true → (∀ d ∈ ds, CapD N d) → ∃ qs, RepL w NoM NoD vs qs ∧ Q1au Γ N tys qs
  | [], [], vs, ds, ps, _, _, h, _, _ => by
    obtain ⟨rfl, rfl, rfl⟩ := ChangeShapes.trodAll_nil h
    exact ⟨[], RepL.nil _ _ _, trivial⟩
  | [], _ :: _, _, _, _, hc, _, _, _, _ => by cases hc
  | _ :: _, [], _, _, _, hc, _, _, _, _ => by cases hc
  | ty :: tys, t :: ts, vs, ds, ps, hc, hv, h, hw, hcd => by
    simp only [chkArgs, Bool.and_eq_true] at hc
    obtain ⟨v, vs', d, ds', p, q, rfl, rfl, rfl, h1, h2⟩ := ChangeShapes.trodAll_cons h
    simp only [DataW.weightsEach, List.all_append, Bool.and_eq_true] at hw
    obtain ⟨x, hx, hax⟩ := Q191 hΓ hc.1.1.1.1 hc.1.1.1.2 (hv 0 t v rfl rfl) h1 hw.1 (hcd _ List.mem_cons_self)
    obtain ⟨qs, hq, haq⟩ := open_args2 hΓ hc.2 (fun j t' v' h1 h2 => hv (j + 1) t' v' (by simpa using h1) (by simpa using h2)) h2 hw.2 (fun d' hd' => hcd d' (List.mem_cons_of_mem _ hd'))
    exact ⟨x :: qs, RepL.cons hx hq, hax, haq⟩
end
theorem ArgB.one {Γ : Nat → Option Ty} {N : Nat} {ty : Ty} {p : PV} (h : ArgB Γ N ty p) (hs : ty.isSt Γ = false) : Of Γ ty [p] ∧ CapL N [p] := by
 obtain ⟨c, hc, hb, hp⟩ := h
 rw [hs] at hp
 have hp : c = [p] := hp
 subst hp
 exact ⟨hc, hb⟩
theorem ArgB.agg {Γ : Nat → Option Ty} {N : Nat} {ty : Ty} {p : PV} (h : ArgB Γ N ty p) (hs : ty.isSt Γ = true) : ∃ c, p = .agg c ∧ Of Γ ty c ∧ CapL N c := by
 obtain ⟨c, hc, hb, hp⟩ := h
 rw [hs] at hp
 exact ⟨c, hp, hc, hb⟩
theorem Cap.strI {N : Nat} {s : ByteArray} (h : Cap N (.str s)) : s.size ≤ N := by
 cases h with
 | str _ h => exact h
theorem Cap.slI {N : Nat} {l : List (List PV)} (h : Cap N (.sl l)) : l.length ≤ N ∧ ∀ r ∈ l, CapL N r := by
 cases h with
 | sl _ h hl => exact ⟨h, hl⟩
theorem Cap.Q7w {N : Nat} {α : Type} {f : α → List PV} {l : List α} (h : Cap N (.sl (l.map f))) : l.length ≤ N ∧ ∀ x ∈ l, CapL N (f x) := by
 obtain ⟨h1, h2⟩ := h.slI
 exact ⟨by simpa using h1, fun x hx => h2 _ (List.mem_map.2 ⟨x, hx, rfl⟩)⟩
theorem law_callsB {P : Program} {G : Nat → Option Fun} (hm : P.follows .mixedOrders = true) (hT : Tie P G) {Γ : Nat → Option Ty} {N : Nat} {tys : List Ty} {f : Nat} (hpure : ∀ qs, Q1au Γ N tys qs → ∃ n, runs G n (.call f qs []) = some (.ret (.bool true) []))
    {W : World} {args : Array Value} (h : ∃ qs, RepL W NoM NoD args.toList qs ∧ Q1au Γ N tys qs) : Calls P f args W fun e W' => e = .returned (.bool true) ∧ Below W.heap.size W W' := by
  obtain ⟨qs, hq, ha⟩ := h
  obtain ⟨n, hn⟩ := hpure qs ha
  obtain ⟨_, hok⟩ := (Qnq hm hT n).1 f qs [] _ _ hn
  have hnoM : ∀ b o, Mut NoD (hF []) NoM b o → NoM b o := by
    rintro b o (h | ⟨id, ob, h1, _⟩)
    · exact h
    · simp [hF] at h1
  refine (hok W NoD NoM args ⟨fun b o h => h.elim, Nat.le_refl _, fun id b h => (by cases h), fun id ob h => (by simp [hF] at h), fun i j a b k h => (by simp [hF] at h), fun id ob b o h => (by simp [hF] at h)⟩ (fun _ _ => rfl) (hq.mono fun v p h => h.to (fun b o _ h => hnoM b o h) (fun _ _ h => h))).mono ?_
  rintro e W' ⟨v, D', rfl, _, hk, _, _, _, _, hr⟩
  cases hr with
  | bool _ _ =>
    refine ⟨rfl, (hk.mono (M1 := fun _ _ => False) ?_).below⟩
    rintro b o _ ⟨id, ob, h1, _⟩
    simp [hF] at h1
end Go.Pv
end

section
/- What counting and comparing values compute (printed by a program). -/
namespace Go.Proofs.YtiflaadeikaghaaGreat
open Go.Pv
abbrev G : Nat → Option Fun := tabG Ir.table
abbrev Γ : Nat → Option Ty := gam 31
abbrev BA : Type := ByteArray
theorem Q1d8 (a b : BA) : Q6 G (.call 152 [.str a, .str b] []) (.ret (.int .i64 (sCmp a b)) []) := ⟨1, by kernel_rfl⟩
mutual
def Qcx (p0 : Val) (p1 : Int) : Int :=
 (Qbo p0 p0.fields 0 (Q9p p0 p0.list 0 (w64 ((w64 (p1 - 1)) - (ByteArray.size p0.s : Int)))))
termination_by SizeOf.sizeOf p0
decreasing_by all_goals first | exact Val.Qrl _ | exact Val.Qcr _
def Q9p (p0 : Val) : List Val → Nat → Int → Int
 | [], _i0, v0_1 =>
  v0_1
 | x0 :: r0, i0, v0_1 =>
  bif (decide (0 ≤ v0_1)) then
   Q9p p0 r0 (i0 + 1) (Qcx x0 v0_1)
  else
   v0_1
termination_by l => SizeOf.sizeOf l
decreasing_by all_goals first | exact Qk4 _ _ | exact Qs6 _ _ | exact Qfw _ _
def Qbo (p0 : Val) : List Fld → Nat → Int → Int
 | [], _i1, v1_1 =>
  v1_1
 | x1 :: r1, i1, v1_1 =>
  bif (decide (0 ≤ v1_1)) then
   Qbo p0 r1 (i1 + 1) (Qcx x1.v (w64 (v1_1 - (ByteArray.size x1.name : Int))))
  else
   v1_1
termination_by l => SizeOf.sizeOf l
decreasing_by all_goals first | exact Qk4 _ _ | exact Qs6 _ _ | exact Qfw _ _
end
def Qxs (_p0 : Val) (i0 : Nat) (v0_1 : Int) : List PV :=
  [.un, .int .i64 v0_1, .bx 0 0, .un, .un, .int .i64 (i0 : Int)] ++ nuns 53
def Qyc (p0 : Val) (_i0 : Nat) (_v0_1 : Int) : List Ob :=
  [⟨5, 0, true, [.int .i64 p0.kind, .int .i64 p0.n, .str p0.s, .sl (Val.rows p0.list), .sl (Fld.rows p0.fields)]⟩]
def Qc9 (p0 : Val) (i0 : Nat) (v0_1 : Int) : En := .loop 0 Ir.Qkl Ir.Q1ei (Qxs p0 i0 v0_1) (Qyc p0 i0 v0_1)
def Qd9 (p0 : Val) (q0 : Int) (z : Nat → PV) (_zo : Nat → List PV) : St :=
  ⟨[z 0, .int .i64 q0, .bx 0 0] ++ zr z 3 56, [(0, ⟨5, 0, true, [.int .i64 p0.kind, .int .i64 p0.n, .str p0.s, .sl (Val.rows p0.list), .sl (Fld.rows p0.fields)]⟩)], 577⟩
def Qcs (p0 : Val) (e : En) (q : Int) : Prop := ∃ z zo, Q6 G e (.st (.exit 0) (Qd9 p0 q z zo))
theorem Qso (p0 : Val) {e e' : En} (h : ∀ r, Q6 G e r → Q6 G e' r) : ∀ q, Qcs p0 e q → Qcs p0 e' q
  | _, ⟨z, zo, hz⟩ => ⟨z, zo, h _ hz⟩
def Quy (_p0 : Val) (i1 : Nat) (v1_1 : Int) : List PV :=
  [.un, .int .i64 v1_1, .bx 0 0, .un, .un, .un, .int .i64 (i1 : Int)] ++ nuns 52
def Qui (p0 : Val) (_i1 : Nat) (_v1_1 : Int) : List Ob :=
  [⟨5, 0, true, [.int .i64 p0.kind, .int .i64 p0.n, .str p0.s, .sl (Val.rows p0.list), .sl (Fld.rows p0.fields)]⟩]
def Qcg (p0 : Val) (i1 : Nat) (v1_1 : Int) : En := .loop 0 Ir.Qm1 Ir.Q1ew (Quy p0 i1 v1_1) (Qui p0 i1 v1_1)
def Qdo (p0 : Val) (q0 : Int) (z : Nat → PV) (_zo : Nat → List PV) : St :=
  ⟨[z 0, .int .i64 q0] ++ zr z 2 57, [(0, ⟨5, 0, true, [.int .i64 p0.kind, .int .i64 p0.n, .str p0.s, .sl (Val.rows p0.list), .sl (Fld.rows p0.fields)]⟩)], 577⟩
def Qcf (p0 : Val) (e : En) (q : Int) : Prop := ∃ z zo, Q6 G e (.st (.exit 2) (Qdo p0 q z zo))
theorem Qtj (p0 : Val) {e e' : En} (h : ∀ r, Q6 G e r → Q6 G e' r) : ∀ q, Qcf p0 e q → Qcf p0 e' q
  | _, ⟨z, zo, hz⟩ => ⟨z, zo, h _ hz⟩
def Q1dc (p0 : Val) (p1 : Int) : En := .call 30 [.agg (Val.cells p0), .int .i64 p1] []
def Q18c (p0 : Val) (p1 : Int) : Rs := .ret (.int .i64 (Qcx p0 p1)) []
abbrev Qv6 (p0 : Val) : Prop := Val.Sm 4611686018427387904 p0
def Q8f (p0 : Val) : Prop := ∀ (q : Val), SizeOf.sizeOf q < SizeOf.sizeOf p0 → ∀ (p1 : Int), Qv6 q → Q6 G (Q1dc q p1) (Q18c q p1)
def Q9z (p0 : Val) : Prop := (List.length p0.list ≤ 4611686018427387904) ∧ (∀ x0 ∈ p0.list, Qv6 x0) ∧ True
def Qa1 (p0 : Val) : Prop := (List.length p0.fields ≤ 4611686018427387904) ∧ (∀ x1 ∈ p0.fields, Qv6 x1.v) ∧ True
theorem Q12n (p0 : Val) (_p1 : Int) (H : Qv6 p0) : (Q9z p0) ∧ (Qa1 p0) ∧ True := by
  obtain ⟨h1, h2, h3, h4⟩ := H.all
  simp only [Q9z, Qa1]
  exact ⟨⟨h1, h3, trivial⟩, ⟨h2, h4, trivial⟩, trivial⟩
def Qq9 (p0 : Val) (i0 : Nat) (_v0_1 : Int) : List PV :=
  nuns 5 ++ [.int .i64 (i0 : Int)] ++ nuns 7 ++ [.int .i64 (i0 : Int), .bx 0 3, .sl (Val.rows p0.list), .int .i64 ((List.length p0.list) : Int), .bool false, .bool false, .tup [], .tup [], .bool false]
def Qkk (_p0 : Val) (_i0 : Nat) (_v0_1 : Int) : List (Nat × List PV) :=
  []
theorem Q16g (p0 : Val) (_H : Q9z p0) (_rec : Q8f p0) (i0 : Nat) (v0_1 : Int) (hc0 : (decide ((i0 : Int) < ((List.length p0.list) : Int))) = false) : Qcs p0 (Qc9 p0 i0 v0_1) v0_1 := by
 exact ⟨(envF (Qq9 p0 i0 v0_1)), (zoF (Qkk p0 i0 v0_1)), Qh VOK.nil (x := ((.exit 0), Qd9 p0 v0_1 (envF (Qq9 p0 i0 v0_1)) (zoF (Qkk p0 i0 v0_1)))) [hP 3 (Qf (Val.rows p0.list) (List.length p0.list) (Val.Q0 p0.list)), hB 0 hc0] [] (by kernel_rfl)⟩
theorem Q174 (p0 : Val) (H : Q9z p0) (rec : Q8f p0) (x0 : Val) (i0 : Nat) (v0_1 : Int) (hx0 : p0.list[i0]? = some x0) (hi0 : i0 < List.length p0.list) (hc0 : (decide ((i0 : Int) < ((List.length p0.list) : Int))) = true) (h0 : (decide (0 ≤ v0_1)) = true) {r : Rs} (hr : Q6 G (Qc9 p0 (i0 + 1) (Qcx x0 v0_1)) r) : Q6 G (Qc9 p0 i0 v0_1) r := by
 have hB0 := H.1; have e0 := of_decide_eq_true h0
 exact Qm VOK.nil (y := (Qxs p0 (i0 + 1) (Qcx x0 v0_1), Qyc p0 (i0 + 1) (Qcx x0 v0_1))) [hP 3 (Qf (Val.rows p0.list) (List.length p0.list) (Val.Q0 p0.list)), hB 0 hc0, hB 2 h0, hP 4 (Q1k 5 (Val.rows p0.list) i0 _ (Val.Qb hx0) rfl), hP 5 (Q29 i0 (by omega))] [aN (rec x0 (szL hx0) v0_1 (H.2.1 x0 (Q2e hx0)))] (by kernel_rfl) hr
def Qnf (p0 : Val) (i0 : Nat) (v0_1 : Int) (_x0 : Val) : List PV :=
  nuns 5 ++ [.int .i64 (i0 : Int)] ++ nuns 7 ++ [.int .i64 (i0 : Int), .bx 0 3, .sl (Val.rows p0.list), .int .i64 ((List.length p0.list) : Int), .bool true, .bool true, .int .i64 v0_1, .bool false, .bool false]
def Qmv (_p0 : Val) (_i0 : Nat) (_v0_1 : Int) (_x0 : Val) : List (Nat × List PV) :=
  []
theorem Q15p (p0 : Val) (_H : Q9z p0) (_rec : Q8f p0) (x0 : Val) (i0 : Nat) (v0_1 : Int) (_hx0 : p0.list[i0]? = some x0) (_hi0 : i0 < List.length p0.list) (hc0 : (decide ((i0 : Int) < ((List.length p0.list) : Int))) = true) (h0 : (decide (0 ≤ v0_1)) = false) : Qcs p0 (Qc9 p0 i0 v0_1) v0_1 := by
 exact ⟨(envF (Qnf p0 i0 v0_1 x0)), (zoF (Qmv p0 i0 v0_1 x0)), Qh VOK.nil (x := ((.exit 0), Qd9 p0 v0_1 (envF (Qnf p0 i0 v0_1 x0)) (zoF (Qmv p0 i0 v0_1 x0)))) [hP 3 (Qf (Val.rows p0.list) (List.length p0.list) (Val.Q0 p0.list)), hB 0 hc0, hB 2 h0] [] (by kernel_rfl)⟩
theorem Quf (p0 : Val) (H : Q9z p0) (rec : Q8f p0) : ∀ (r0 : List Val) (i0 : Nat) (v0_1 : Int), List.drop i0 p0.list = r0 → Qcs p0 (Qc9 p0 i0 v0_1) (Q9p p0 r0 i0 v0_1)
 | [], i0, v0_1, hd => by
  have hc0 : (decide ((i0 : Int) < ((List.length p0.list) : Int))) = false := by have := Q1g hd; simp; omega
  rw [Q9p]
  exact Q16g p0 H rec i0 v0_1 hc0
 | x0 :: r0, i0, v0_1, hd => by
  obtain ⟨hx0, hi0, hd'⟩ := Q12 hd
  have hc0 : (decide ((i0 : Int) < ((List.length p0.list) : Int))) = true := by simp; omega
  rw [Q9p]
  cases h0 : (decide (0 ≤ v0_1)) with
  | true =>
   exact Qso p0 (fun r hr => Q174 p0 H rec x0 i0 v0_1 hx0 hi0 hc0 h0 hr) _ (Quf p0 H rec r0 (i0 + 1) (Qcx x0 v0_1) hd')
  | false =>
   exact Q15p p0 H rec x0 i0 v0_1 hx0 hi0 hc0 h0
def Qpq (p0 : Val) (i1 : Nat) (_v1_1 : Int) : List PV :=
  [.un, .un, .bx 0 0, .un, .un, .un, .int .i64 (i1 : Int)] ++ nuns 24 ++ [.int .i64 (i1 : Int), .bx 0 4, .sl (Fld.rows p0.fields), .int .i64 ((List.length p0.fields) : Int), .bool false, .bool false, .tup [], .tup [], .bool false]
def Qhk (_p0 : Val) (_i1 : Nat) (_v1_1 : Int) : List (Nat × List PV) :=
  []
theorem Q15e (p0 : Val) (_H : Qa1 p0) (_rec : Q8f p0) (i1 : Nat) (v1_1 : Int) (hc1 : (decide ((i1 : Int) < ((List.length p0.fields) : Int))) = false) : Qcf p0 (Qcg p0 i1 v1_1) v1_1 := by
 exact ⟨(envF (Qpq p0 i1 v1_1)), (zoF (Qhk p0 i1 v1_1)), Qh VOK.nil (x := ((.exit 2), Qdo p0 v1_1 (envF (Qpq p0 i1 v1_1)) (zoF (Qhk p0 i1 v1_1)))) [hP 3 (Qf (Fld.rows p0.fields) (List.length p0.fields) (Fld.Q0 p0.fields)), hB 0 hc1] [] (by kernel_rfl)⟩
theorem Q14i (p0 : Val) (H : Qa1 p0) (rec : Q8f p0) (x1 : Fld) (i1 : Nat) (v1_1 : Int) (hx1 : p0.fields[i1]? = some x1) (hi1 : i1 < List.length p0.fields) (hc1 : (decide ((i1 : Int) < ((List.length p0.fields) : Int))) = true) (h0 : (decide (0 ≤ v1_1)) = true) {r : Rs} (hr : Q6 G (Qcg p0 (i1 + 1) (Qcx x1.v (w64 (v1_1 - (ByteArray.size x1.name : Int))))) r) : Q6 G (Qcg p0 i1 v1_1) r := by
 have hB0 := H.1; have e0 := of_decide_eq_true h0
 exact Qm VOK.nil (y := (Quy p0 (i1 + 1) (Qcx x1.v (w64 (v1_1 - (ByteArray.size x1.name : Int)))), Qui p0 (i1 + 1) (Qcx x1.v (w64 (v1_1 - (ByteArray.size x1.name : Int)))))) [hP 3 (Qf (Fld.rows p0.fields) (List.length p0.fields) (Fld.Q0 p0.fields)), hB 0 hc1, hB 2 h0, hP 4 (Q1k 6 (Fld.rows p0.fields) i1 _ (Fld.Qb hx1) rfl), hP 6 (Q1k 6 (Fld.rows p0.fields) i1 _ (Fld.Qb hx1) rfl), hP 7 (Q29 i1 (by omega))] [aN (rec x1.v (szF hx1) (w64 (v1_1 - (ByteArray.size x1.name : Int))) (H.2.1 x1 (Q2e hx1)))] (by kernel_rfl) hr
def Qr8 (p0 : Val) (i1 : Nat) (v1_1 : Int) (_x1 : Fld) : List PV :=
  [.un, .un, .bx 0 0, .un, .un, .un, .int .i64 (i1 : Int)] ++ nuns 24 ++ [.int .i64 (i1 : Int), .bx 0 4, .sl (Fld.rows p0.fields), .int .i64 ((List.length p0.fields) : Int), .bool true, .bool true, .int .i64 v1_1, .bool false, .bool false]
def Qks (_p0 : Val) (_i1 : Nat) (_v1_1 : Int) (_x1 : Fld) : List (Nat × List PV) :=
  []
theorem Q16x (p0 : Val) (_H : Qa1 p0) (_rec : Q8f p0) (x1 : Fld) (i1 : Nat) (v1_1 : Int) (_hx1 : p0.fields[i1]? = some x1) (_hi1 : i1 < List.length p0.fields) (hc1 : (decide ((i1 : Int) < ((List.length p0.fields) : Int))) = true) (h0 : (decide (0 ≤ v1_1)) = false) : Qcf p0 (Qcg p0 i1 v1_1) v1_1 := by
 exact ⟨(envF (Qr8 p0 i1 v1_1 x1)), (zoF (Qks p0 i1 v1_1 x1)), Qh VOK.nil (x := ((.exit 2), Qdo p0 v1_1 (envF (Qr8 p0 i1 v1_1 x1)) (zoF (Qks p0 i1 v1_1 x1)))) [hP 3 (Qf (Fld.rows p0.fields) (List.length p0.fields) (Fld.Q0 p0.fields)), hB 0 hc1, hB 2 h0] [] (by kernel_rfl)⟩
theorem Qxh (p0 : Val) (H : Qa1 p0) (rec : Q8f p0) : ∀ (r1 : List Fld) (i1 : Nat) (v1_1 : Int), List.drop i1 p0.fields = r1 → Qcf p0 (Qcg p0 i1 v1_1) (Qbo p0 r1 i1 v1_1)
 | [], i1, v1_1, hd => by
  have hc1 : (decide ((i1 : Int) < ((List.length p0.fields) : Int))) = false := by have := Q1g hd; simp; omega
  rw [Qbo]
  exact Q15e p0 H rec i1 v1_1 hc1
 | x1 :: r1, i1, v1_1, hd => by
  obtain ⟨hx1, hi1, hd'⟩ := Q12 hd
  have hc1 : (decide ((i1 : Int) < ((List.length p0.fields) : Int))) = true := by simp; omega
  rw [Qbo]
  cases h0 : (decide (0 ≤ v1_1)) with
  | true =>
   exact Qtj p0 (fun r hr => Q14i p0 H rec x1 i1 v1_1 hx1 hi1 hc1 h0 hr) _ (Qxh p0 H rec r1 (i1 + 1) (Qcx x1.v (w64 (v1_1 - (ByteArray.size x1.name : Int)))) hd')
  | false =>
   exact Q16x p0 H rec x1 i1 v1_1 hx1 hi1 hc1 h0
theorem Q1q2 (p0 : Val) (p1 : Int) (H : Qv6 p0) (rec : Q8f p0) : Q6 G (Q1dc p0 p1) (Q18c p0 p1) := by
  unfold Q18c
  rw [Qcx]
  have hl0 := Quf p0 ((Q12n p0 p1 H).1) rec p0.list 0 (w64 ((w64 (p1 - 1)) - (ByteArray.size p0.s : Int))) (by simp)
  obtain ⟨z0, zo0, hl0⟩ := hl0
  have hl1 := Qxh p0 ((Q12n p0 p1 H).2.1) rec p0.fields 0 (Q9p p0 p0.list 0 (w64 ((w64 (p1 - 1)) - (ByteArray.size p0.s : Int)))) (by simp)
  obtain ⟨z1, zo1, hl1⟩ := hl1
  exact Q8 (fn := Ir.K28) rfl VOK.nil [] [aN hl0, aN hl1] (by kernel_rfl)
theorem Q1j0 : ∀ (k : Nat) (p0 : Val), SizeOf.sizeOf p0 < k → ∀ (p1 : Int), Qv6 p0 → Q6 G (Q1dc p0 p1) (Q18c p0 p1)
  | 0, _, h, _, _ => absurd h (Nat.not_lt_zero _)
  | k + 1, p0, h, p1, H => Q1q2 p0 p1 H (fun q hq p1 hH => Q1j0 k q (by omega) p1 hH)
theorem Q1ov (p0 : Val) (p1 : Int) (H : Qv6 p0) : Q6 G (Q1dc p0 p1) (Q18c p0 p1) := Q1j0 _ p0 (Nat.lt_succ_self _) p1 H
def Q17y (p0 : Val) (p1 : Int) : Bool :=
 (decide (0 ≤ (Qcx p0 p1)))
def Q1qf (p0 : Val) (p1 : Int) : En := .call 9 [.agg (Val.cells p0), .int .i64 p1] []
def Q1kf (p0 : Val) (p1 : Int) : Rs := .ret (.bool (Q17y p0 p1)) []
def Q17c (p0 : Val) (_p1 : Int) : Prop := (Qv6 p0) ∧ True
theorem Q1gg (p0 : Val) (p1 : Int) (H : Q17c p0 p1) : Q6 G (Q1qf p0 p1) (Q1kf p0 p1) := by
 unfold Q1kf Q17y
 exact Q8 (fn := Ir.K27) rfl VOK.nil [] [aN (Q1ov p0 p1 H.1)] (by kernel_rfl)
def Q1hg (p0 : BA) (p1 : BA) : Int :=
 (sCmp p0 p1)
def Q1rj (p0 : BA) (p1 : BA) : En := .call 135 [.str p0, .str p1] []
def Q1ki (p0 : BA) (p1 : BA) : Rs := .ret (.int .i64 (Q1hg p0 p1)) []
theorem Q1ok (p0 : BA) (p1 : BA) : Q6 G (Q1rj p0 p1) (Q1ki p0 p1) := by
 unfold Q1ki Q1hg
 exact Q8 (fn := Ir.K3u) rfl VOK.nil [] [aN (Q1d8 p0 p1)] (by kernel_rfl)
inductive Q116 where
  | k0
  | k1
inductive Q13g where
  | k0
  | k1
abbrev eB : ByteArray := ⟨#[]⟩
abbrev zF : Fld := (Fld.mk eB (Val.mk 0 0 eB [] []))
mutual
def Q5f (p0 : Val) (p1 : Val) : Bool :=
 bif (p0.kind == p1.kind) then
  bif (p0.n == p1.n) then
   bif (sEq p0.s p1.s) then
    bif (((List.length p0.list) : Int) == ((List.length p1.list) : Int)) then
     bif (((List.length p0.fields) : Int) == ((List.length p1.fields) : Int)) then
      (match (Q5t p0 p1 p0.list 0) with
      | .k0 => (match (Q5u p0 p1 p0.fields 0) with
       | .k0 => true
       | .k1 => false)
      | .k1 => false)
     else
      false
    else
     false
   else
    false
  else
   false
 else
  false
termination_by SizeOf.sizeOf p0
decreasing_by all_goals first | exact Val.Qrl _ | exact Val.Qcr _
def Q5t (p0 : Val) (p1 : Val) : List Val → Nat → Q116
 | [], _i0 =>
  (.k0)
 | x0 :: r0, i0 =>
  bif (Q5f x0 (List.getD p1.list i0 (Val.mk 0 0 eB [] []))) then
   Q5t p0 p1 r0 (i0 + 1)
  else
   (.k1)
termination_by l => SizeOf.sizeOf l
decreasing_by all_goals first | exact Qk4 _ _ | exact Qs6 _ _ | exact Qfw _ _
def Q5u (p0 : Val) (p1 : Val) : List Fld → Nat → Q13g
 | [], _i1 =>
  (.k0)
 | x1 :: r1, i1 =>
  bif (sEq x1.name (List.getD p1.fields i1 zF).name) then
   bif (Q5f x1.v (List.getD p1.fields i1 zF).v) then
    Q5u p0 p1 r1 (i1 + 1)
   else
    (.k1)
  else
   (.k1)
termination_by l => SizeOf.sizeOf l
decreasing_by all_goals first | exact Qk4 _ _ | exact Qs6 _ _ | exact Qfw _ _
end
def Qxc (_p0 : Val) (_p1 : Val) (i0 : Nat) : List PV :=
  [.un, .un, .bx 0 0, .bx 1 0, .un, .int .i64 (i0 : Int)] ++ nuns 93
def Qx3 (p0 : Val) (p1 : Val) (_i0 : Nat) : List Ob :=
  [⟨5, 0, true, [.int .i64 p0.kind, .int .i64 p0.n, .str p0.s, .sl (Val.rows p0.list), .sl (Fld.rows p0.fields)]⟩, ⟨5, 0, true, [.int .i64 p1.kind, .int .i64 p1.n, .str p1.s, .sl (Val.rows p1.list), .sl (Fld.rows p1.fields)]⟩]
def Q6s (p0 : Val) (p1 : Val) (i0 : Nat) : En := .loop 0 Ir.Ql8 Ir.Q1ed (Qxc p0 p1 i0) (Qx3 p0 p1 i0)
def Q9y (p0 : Val) (p1 : Val) (z : Nat → PV) (_zo : Nat → List PV) : St :=
  ⟨[z 0, z 1, .bx 0 0, .bx 1 0] ++ zr z 4 95, [(0, ⟨5, 0, true, [.int .i64 p0.kind, .int .i64 p0.n, .str p0.s, .sl (Val.rows p0.list), .sl (Fld.rows p0.fields)]⟩), (1, ⟨5, 0, true, [.int .i64 p1.kind, .int .i64 p1.n, .str p1.s, .sl (Val.rows p1.list), .sl (Fld.rows p1.fields)]⟩)], 322⟩
def Qdn (_p0 : Val) (_p1 : Val) (z : Nat → PV) (zo : Nat → List PV) : St :=
  ⟨[z 0, z 1, z 2, z 3, .bool false] ++ zr z 5 94, [(0, ⟨5, 0, true, zo 0⟩), (1, ⟨5, 0, true, zo 1⟩)], 1154⟩
def Qb5 (p0 : Val) (p1 : Val) (e : En) : Q116 → Prop
  | .k0 => ∃ z zo, Q6 G e (.st (.exit 0) (Q9y p0 p1 z zo))
  | .k1 => ∃ z zo, Q6 G e (.st .ret (Qdn p0 p1 z zo))
theorem Qsl (p0 : Val) (p1 : Val) {e e' : En} (h : ∀ r, Q6 G e r → Q6 G e' r) : ∀ q, Qb5 p0 p1 e q → Qb5 p0 p1 e' q
  | .k0, ⟨z, zo, hz⟩ => ⟨z, zo, h _ hz⟩
  | .k1, ⟨z, zo, hz⟩ => ⟨z, zo, h _ hz⟩
def Qyr (_p0 : Val) (_p1 : Val) (i1 : Nat) : List PV :=
  [.un, .un, .bx 0 0, .bx 1 0, .un, .un, .int .i64 (i1 : Int)] ++ nuns 92
def Qyo (p0 : Val) (p1 : Val) (_i1 : Nat) : List Ob :=
  [⟨5, 0, true, [.int .i64 p0.kind, .int .i64 p0.n, .str p0.s, .sl (Val.rows p0.list), .sl (Fld.rows p0.fields)]⟩, ⟨5, 0, true, [.int .i64 p1.kind, .int .i64 p1.n, .str p1.s, .sl (Val.rows p1.list), .sl (Fld.rows p1.fields)]⟩]
def Q70 (p0 : Val) (p1 : Val) (i1 : Nat) : En := .loop 0 Ir.Qjn Ir.Q1e8 (Qyr p0 p1 i1) (Qyo p0 p1 i1)
def Qct (p0 : Val) (p1 : Val) (z : Nat → PV) (_zo : Nat → List PV) : St :=
  ⟨zr z 0 99, [(0, ⟨5, 0, true, [.int .i64 p0.kind, .int .i64 p0.n, .str p0.s, .sl (Val.rows p0.list), .sl (Fld.rows p0.fields)]⟩), (1, ⟨5, 0, true, [.int .i64 p1.kind, .int .i64 p1.n, .str p1.s, .sl (Val.rows p1.list), .sl (Fld.rows p1.fields)]⟩)], 322⟩
def Q9t (_p0 : Val) (_p1 : Val) (z : Nat → PV) (zo : Nat → List PV) : St :=
  ⟨[z 0, z 1, z 2, z 3, .bool false] ++ zr z 5 94, [(0, ⟨5, 0, true, zo 0⟩), (1, ⟨5, 0, true, zo 1⟩)], 2242⟩
def Q9q (p0 : Val) (p1 : Val) (e : En) : Q13g → Prop
  | .k0 => ∃ z zo, Q6 G e (.st (.exit 2) (Qct p0 p1 z zo))
  | .k1 => ∃ z zo, Q6 G e (.st .ret (Q9t p0 p1 z zo))
theorem Qtx (p0 : Val) (p1 : Val) {e e' : En} (h : ∀ r, Q6 G e r → Q6 G e' r) : ∀ q, Q9q p0 p1 e q → Q9q p0 p1 e' q
  | .k0, ⟨z, zo, hz⟩ => ⟨z, zo, h _ hz⟩
  | .k1, ⟨z, zo, hz⟩ => ⟨z, zo, h _ hz⟩
def Qei (p0 : Val) (p1 : Val) : En := .call 23 [.agg (Val.cells p0), .agg (Val.cells p1)] []
def Q18d (p0 : Val) (p1 : Val) : Rs := .ret (.bool (Q5f p0 p1)) []
abbrev Q7c (p0 : Val) : Prop := Val.Sm 4611686018427387904 p0
def Q3u (p0 : Val) : Prop := ∀ (q : Val), SizeOf.sizeOf q < SizeOf.sizeOf p0 → ∀ (p1 : Val), Q7c q → Q6 G (Qei q p1) (Q18d q p1)
def Qcj (p0 : Val) (p1 : Val) : Prop := (List.length p0.list ≤ 4611686018427387904) ∧ (∀ (i0 : Nat) (x0 : Val), p0.list[i0]? = some x0 → i0 < List.length p1.list) ∧ (∀ x0 ∈ p0.list, Q7c x0) ∧ True
def Q9j (p0 : Val) (p1 : Val) : Prop := (List.length p0.fields ≤ 4611686018427387904) ∧ (∀ (i1 : Nat) (x1 : Fld), p0.fields[i1]? = some x1 → i1 < List.length p1.fields) ∧ (∀ x1 ∈ p0.fields, Q7c x1.v) ∧ True
theorem Q11e (p0 : Val) (p1 : Val) (H : Q7c p0) : ((((List.length p0.list) : Int) == ((List.length p1.list) : Int)) = true → (((List.length p0.fields) : Int) == ((List.length p1.fields) : Int)) = true → Qcj p0 p1) ∧ ((((List.length p0.list) : Int) == ((List.length p1.list) : Int)) = true → (((List.length p0.fields) : Int) == ((List.length p1.fields) : Int)) = true → Q9j p0 p1) ∧ True := by
  obtain ⟨h1, h2, h3, h4⟩ := H.all
  exact ⟨fun a _ => ⟨h1, fun i x hx => by have := (List.getElem?_eq_some_iff.1 hx).1; have := eq_of_beq a; omega, h3, trivial⟩, fun _ b => ⟨h2, fun i x hx => by have := (List.getElem?_eq_some_iff.1 hx).1; have := eq_of_beq b; omega, h4, trivial⟩, trivial⟩
def Qqk (p0 : Val) (_p1 : Val) (i0 : Nat) : List PV :=
  nuns 5 ++ [.int .i64 (i0 : Int)] ++ nuns 38 ++ [.int .i64 (i0 : Int), .bx 0 3, .sl (Val.rows p0.list), .int .i64 ((List.length p0.list) : Int), .bool false]
def Qju (_p0 : Val) (_p1 : Val) (_i0 : Nat) : List (Nat × List PV) :=
  []
theorem Q14h (p0 : Val) (p1 : Val) (_H : Qcj p0 p1) (_rec : Q3u p0) (i0 : Nat) (hc0 : (decide ((i0 : Int) < ((List.length p0.list) : Int))) = false) : Qb5 p0 p1 (Q6s p0 p1 i0) (.k0) := by
 exact ⟨(envF (Qqk p0 p1 i0)), (zoF (Qju p0 p1 i0)), Qh VOK.nil (x := ((.exit 0), Q9y p0 p1 (envF (Qqk p0 p1 i0)) (zoF (Qju p0 p1 i0)))) [hP 3 (Qf (Val.rows p0.list) (List.length p0.list) (Val.Q0 p0.list)), hB 0 hc0] [] (by kernel_rfl)⟩
theorem Q15a (p0 : Val) (p1 : Val) (H : Qcj p0 p1) (rec : Q3u p0) (x0 : Val) (i0 : Nat) (hx0 : p0.list[i0]? = some x0) (hi0 : i0 < List.length p0.list) (hc0 : (decide ((i0 : Int) < ((List.length p0.list) : Int))) = true) (h0 : (Q5f x0 (List.getD p1.list i0 (Val.mk 0 0 eB [] []))) = true) {r : Rs} (hr : Q6 G (Q6s p0 p1 (i0 + 1)) r) : Q6 G (Q6s p0 p1 i0) r := by
 have hB0 := H.1
 exact Qm VOK.nil (y := (Qxc p0 p1 (i0 + 1), Qx3 p0 p1 (i0 + 1))) [hP 3 (Qf (Val.rows p0.list) (List.length p0.list) (Val.Q0 p0.list)), hB 0 hc0, hP 3 (Q1k 5 (Val.rows p0.list) i0 _ (Val.Qb hx0) rfl), hP 4 (Q1k 5 (Val.rows p1.list) i0 _ (Val.Qb (Q21 p1.list i0 (Val.mk 0 0 eB [] []) ((H.2.1 i0 x0 hx0)))) rfl), hP 4 (Q29 i0 (by omega))] [aB (rec x0 (szL hx0) (List.getD p1.list i0 (Val.mk 0 0 eB [] [])) (H.2.2.1 x0 (Q2e hx0))) h0] (by kernel_rfl) hr
def Qp4 (p0 : Val) (p1 : Val) (i0 : Nat) (x0 : Val) : List PV :=
  [.un, .un, .bx 0 0, .bx 1 0, .un, .int .i64 (i0 : Int)] ++ nuns 38 ++ [.int .i64 (i0 : Int), .bx 0 3, .sl (Val.rows p0.list), .int .i64 ((List.length p0.list) : Int), .bool true, .un, .un, .bx 0 3, .sl (Val.rows p0.list), .int .i64 (i0 : Int), .rf [.int .i64 x0.kind, .int .i64 x0.n, .str x0.s, .sl (Val.rows x0.list), .sl (Fld.rows x0.fields)], .agg [.int .i64 x0.kind, .int .i64 x0.n, .str x0.s, .sl (Val.rows x0.list), .sl (Fld.rows x0.fields)], .bx 1 3, .sl (Val.rows p1.list), .int .i64 (i0 : Int), .rf [.int .i64 (List.getD p1.list i0 (Val.mk 0 0 eB [] [])).kind, .int .i64 (List.getD p1.list i0 (Val.mk 0 0 eB [] [])).n, .str (List.getD p1.list i0 (Val.mk 0 0 eB [] [])).s, .sl (Val.rows (List.getD p1.list i0 (Val.mk 0 0 eB [] [])).list), .sl (Fld.rows (List.getD p1.list i0 (Val.mk 0 0 eB [] [])).fields)], .agg [.int .i64 (List.getD p1.list i0 (Val.mk 0 0 eB [] [])).kind, .int .i64 (List.getD p1.list i0 (Val.mk 0 0 eB [] [])).n, .str (List.getD p1.list i0 (Val.mk 0 0 eB [] [])).s, .sl (Val.rows (List.getD p1.list i0 (Val.mk 0 0 eB [] [])).list), .sl (Fld.rows (List.getD p1.list i0 (Val.mk 0 0 eB [] [])).fields)], .bool false, .bool true]
def Qkw (p0 : Val) (p1 : Val) (_i0 : Nat) (_x0 : Val) : List (Nat × List PV) :=
  [(0, [.int .i64 p0.kind, .int .i64 p0.n, .str p0.s, .sl (Val.rows p0.list), .sl (Fld.rows p0.fields)]), (1, [.int .i64 p1.kind, .int .i64 p1.n, .str p1.s, .sl (Val.rows p1.list), .sl (Fld.rows p1.fields)])]
theorem Q14p (p0 : Val) (p1 : Val) (H : Qcj p0 p1) (rec : Q3u p0) (x0 : Val) (i0 : Nat) (hx0 : p0.list[i0]? = some x0) (_hi0 : i0 < List.length p0.list) (hc0 : (decide ((i0 : Int) < ((List.length p0.list) : Int))) = true) (h0 : (Q5f x0 (List.getD p1.list i0 (Val.mk 0 0 eB [] []))) = false) : Qb5 p0 p1 (Q6s p0 p1 i0) (.k1) := by
 exact ⟨(envF (Qp4 p0 p1 i0 x0)), (zoF (Qkw p0 p1 i0 x0)), Qh VOK.nil (x := (.ret, Qdn p0 p1 (envF (Qp4 p0 p1 i0 x0)) (zoF (Qkw p0 p1 i0 x0)))) [hP 3 (Qf (Val.rows p0.list) (List.length p0.list) (Val.Q0 p0.list)), hB 0 hc0, hP 3 (Q1k 5 (Val.rows p0.list) i0 _ (Val.Qb hx0) rfl), hP 4 (Q1k 5 (Val.rows p1.list) i0 _ (Val.Qb (Q21 p1.list i0 (Val.mk 0 0 eB [] []) ((H.2.1 i0 x0 hx0)))) rfl)] [aB (rec x0 (szL hx0) (List.getD p1.list i0 (Val.mk 0 0 eB [] [])) (H.2.2.1 x0 (Q2e hx0))) h0] (by kernel_rfl)⟩
theorem Qwp (p0 : Val) (p1 : Val) (H : Qcj p0 p1) (rec : Q3u p0) : ∀ (r0 : List Val) (i0 : Nat), List.drop i0 p0.list = r0 → Qb5 p0 p1 (Q6s p0 p1 i0) (Q5t p0 p1 r0 i0)
 | [], i0, hd => by
  have hc0 : (decide ((i0 : Int) < ((List.length p0.list) : Int))) = false := by have := Q1g hd; simp; omega
  rw [Q5t]
  exact Q14h p0 p1 H rec i0 hc0
 | x0 :: r0, i0, hd => by
  obtain ⟨hx0, hi0, hd'⟩ := Q12 hd
  have hc0 : (decide ((i0 : Int) < ((List.length p0.list) : Int))) = true := by simp; omega
  rw [Q5t]
  cases h0 : (Q5f x0 (List.getD p1.list i0 (Val.mk 0 0 eB [] []))) with
  | true =>
   exact Qsl p0 p1 (fun r hr => Q15a p0 p1 H rec x0 i0 hx0 hi0 hc0 h0 hr) _ (Qwp p0 p1 H rec r0 (i0 + 1) hd')
  | false =>
   exact Q14p p0 p1 H rec x0 i0 hx0 hi0 hc0 h0
def Qqh (p0 : Val) (_p1 : Val) (i1 : Nat) : List PV :=
  [.un, .un, .bx 0 0, .bx 1 0, .un, .un, .int .i64 (i1 : Int)] ++ nuns 56 ++ [.int .i64 (i1 : Int), .bx 0 4, .sl (Fld.rows p0.fields), .int .i64 ((List.length p0.fields) : Int), .bool false]
def Qi9 (_p0 : Val) (_p1 : Val) (_i1 : Nat) : List (Nat × List PV) :=
  []
theorem Q16k (p0 : Val) (p1 : Val) (_H : Q9j p0 p1) (_rec : Q3u p0) (i1 : Nat) (hc1 : (decide ((i1 : Int) < ((List.length p0.fields) : Int))) = false) : Q9q p0 p1 (Q70 p0 p1 i1) (.k0) := by
 exact ⟨(envF (Qqh p0 p1 i1)), (zoF (Qi9 p0 p1 i1)), Qh VOK.nil (x := ((.exit 2), Qct p0 p1 (envF (Qqh p0 p1 i1)) (zoF (Qi9 p0 p1 i1)))) [hP 3 (Qf (Fld.rows p0.fields) (List.length p0.fields) (Fld.Q0 p0.fields)), hB 0 hc1] [] (by kernel_rfl)⟩
theorem Q144 (p0 : Val) (p1 : Val) (H : Q9j p0 p1) (rec : Q3u p0) (x1 : Fld) (i1 : Nat) (hx1 : p0.fields[i1]? = some x1) (hi1 : i1 < List.length p0.fields) (hc1 : (decide ((i1 : Int) < ((List.length p0.fields) : Int))) = true) (h0 : (sEq x1.name (List.getD p1.fields i1 zF).name) = true) (h1 : (Q5f x1.v (List.getD p1.fields i1 zF).v) = true) {r : Rs} (hr : Q6 G (Q70 p0 p1 (i1 + 1)) r) : Q6 G (Q70 p0 p1 i1) r := by
 have hB0 := H.1
 exact Qm VOK.nil (y := (Qyr p0 p1 (i1 + 1), Qyo p0 p1 (i1 + 1))) [hP 3 (Qf (Fld.rows p0.fields) (List.length p0.fields) (Fld.Q0 p0.fields)), hB 0 hc1, hP 3 (Q1k 6 (Fld.rows p0.fields) i1 _ (Fld.Qb hx1) rfl), hP 5 (Q1k 6 (Fld.rows p1.fields) i1 _ (Fld.Qb (Q21 p1.fields i1 zF ((H.2.1 i1 x1 hx1)))) rfl), hP 2 (dec (!(sEq x1.name (List.getD p1.fields i1 zF).name)) false (by rw [h0]; rfl)), hP 4 (Q1k 6 (Fld.rows p0.fields) i1 _ (Fld.Qb hx1) rfl), hP 5 (Q1k 6 (Fld.rows p1.fields) i1 _ (Fld.Qb (Q21 p1.fields i1 zF ((H.2.1 i1 x1 hx1)))) rfl), hP 6 (Q29 i1 (by omega))] [aB (rec x1.v (szF hx1) (List.getD p1.fields i1 zF).v (H.2.2.1 x1 (Q2e hx1))) h1] (by kernel_rfl) hr
def Qra (p0 : Val) (p1 : Val) (i1 : Nat) (x1 : Fld) : List PV :=
  [.un, .un, .bx 0 0, .bx 1 0, .un, .un, .int .i64 (i1 : Int)] ++ nuns 56 ++ [.int .i64 (i1 : Int), .bx 0 4, .sl (Fld.rows p0.fields), .int .i64 ((List.length p0.fields) : Int), .bool true, .un, .un, .bx 0 4, .sl (Fld.rows p0.fields), .int .i64 (i1 : Int), .rf [.str x1.name, .int .i64 x1.v.kind, .int .i64 x1.v.n, .str x1.v.s, .sl (Val.rows x1.v.list), .sl (Fld.rows x1.v.fields)], .rf [.str x1.name, .int .i64 x1.v.kind, .int .i64 x1.v.n, .str x1.v.s, .sl (Val.rows x1.v.list), .sl (Fld.rows x1.v.fields)], .str x1.name, .bx 1 4, .sl (Fld.rows p1.fields), .int .i64 (i1 : Int), .rf [.str (List.getD p1.fields i1 zF).name, .int .i64 (List.getD p1.fields i1 zF).v.kind, .int .i64 (List.getD p1.fields i1 zF).v.n, .str (List.getD p1.fields i1 zF).v.s, .sl (Val.rows (List.getD p1.fields i1 zF).v.list), .sl (Fld.rows (List.getD p1.fields i1 zF).v.fields)], .rf [.str (List.getD p1.fields i1 zF).name, .int .i64 (List.getD p1.fields i1 zF).v.kind, .int .i64 (List.getD p1.fields i1 zF).v.n, .str (List.getD p1.fields i1 zF).v.s, .sl (Val.rows (List.getD p1.fields i1 zF).v.list), .sl (Fld.rows (List.getD p1.fields i1 zF).v.fields)], .str (List.getD p1.fields i1 zF).name, .bool false, .bool false, .bx 0 4, .sl (Fld.rows p0.fields), .int .i64 (i1 : Int), .rf [.str x1.name, .int .i64 x1.v.kind, .int .i64 x1.v.n, .str x1.v.s, .sl (Val.rows x1.v.list), .sl (Fld.rows x1.v.fields)], .rf [.int .i64 x1.v.kind, .int .i64 x1.v.n, .str x1.v.s, .sl (Val.rows x1.v.list), .sl (Fld.rows x1.v.fields)], .agg [.int .i64 x1.v.kind, .int .i64 x1.v.n, .str x1.v.s, .sl (Val.rows x1.v.list), .sl (Fld.rows x1.v.fields)], .bx 1 4, .sl (Fld.rows p1.fields), .int .i64 (i1 : Int), .rf [.str (List.getD p1.fields i1 zF).name, .int .i64 (List.getD p1.fields i1 zF).v.kind, .int .i64 (List.getD p1.fields i1 zF).v.n, .str (List.getD p1.fields i1 zF).v.s, .sl (Val.rows (List.getD p1.fields i1 zF).v.list), .sl (Fld.rows (List.getD p1.fields i1 zF).v.fields)], .rf [.int .i64 (List.getD p1.fields i1 zF).v.kind, .int .i64 (List.getD p1.fields i1 zF).v.n, .str (List.getD p1.fields i1 zF).v.s, .sl (Val.rows (List.getD p1.fields i1 zF).v.list), .sl (Fld.rows (List.getD p1.fields i1 zF).v.fields)], .agg [.int .i64 (List.getD p1.fields i1 zF).v.kind, .int .i64 (List.getD p1.fields i1 zF).v.n, .str (List.getD p1.fields i1 zF).v.s, .sl (Val.rows (List.getD p1.fields i1 zF).v.list), .sl (Fld.rows (List.getD p1.fields i1 zF).v.fields)], .bool false, .bool true, .bool true]
def Qj7 (p0 : Val) (p1 : Val) (_i1 : Nat) (_x1 : Fld) : List (Nat × List PV) :=
  [(0, [.int .i64 p0.kind, .int .i64 p0.n, .str p0.s, .sl (Val.rows p0.list), .sl (Fld.rows p0.fields)]), (1, [.int .i64 p1.kind, .int .i64 p1.n, .str p1.s, .sl (Val.rows p1.list), .sl (Fld.rows p1.fields)])]
theorem Q16s (p0 : Val) (p1 : Val) (H : Q9j p0 p1) (rec : Q3u p0) (x1 : Fld) (i1 : Nat) (hx1 : p0.fields[i1]? = some x1) (_hi1 : i1 < List.length p0.fields) (hc1 : (decide ((i1 : Int) < ((List.length p0.fields) : Int))) = true) (h0 : (sEq x1.name (List.getD p1.fields i1 zF).name) = true) (h1 : (Q5f x1.v (List.getD p1.fields i1 zF).v) = false) : Q9q p0 p1 (Q70 p0 p1 i1) (.k1) := by
 exact ⟨(envF (Qra p0 p1 i1 x1)), (zoF (Qj7 p0 p1 i1 x1)), Qh VOK.nil (x := (.ret, Q9t p0 p1 (envF (Qra p0 p1 i1 x1)) (zoF (Qj7 p0 p1 i1 x1)))) [hP 3 (Qf (Fld.rows p0.fields) (List.length p0.fields) (Fld.Q0 p0.fields)), hB 0 hc1, hP 3 (Q1k 6 (Fld.rows p0.fields) i1 _ (Fld.Qb hx1) rfl), hP 5 (Q1k 6 (Fld.rows p1.fields) i1 _ (Fld.Qb (Q21 p1.fields i1 zF ((H.2.1 i1 x1 hx1)))) rfl), hP 2 (dec (!(sEq x1.name (List.getD p1.fields i1 zF).name)) false (by rw [h0]; rfl)), hP 4 (Q1k 6 (Fld.rows p0.fields) i1 _ (Fld.Qb hx1) rfl), hP 5 (Q1k 6 (Fld.rows p1.fields) i1 _ (Fld.Qb (Q21 p1.fields i1 zF ((H.2.1 i1 x1 hx1)))) rfl)] [aB (rec x1.v (szF hx1) (List.getD p1.fields i1 zF).v (H.2.2.1 x1 (Q2e hx1))) h1] (by kernel_rfl)⟩
def Qqi (p0 : Val) (p1 : Val) (i1 : Nat) (x1 : Fld) : List PV :=
  [.un, .un, .bx 0 0, .bx 1 0, .un, .un, .int .i64 (i1 : Int)] ++ nuns 56 ++ [.int .i64 (i1 : Int), .bx 0 4, .sl (Fld.rows p0.fields), .int .i64 ((List.length p0.fields) : Int), .bool true, .un, .un, .bx 0 4, .sl (Fld.rows p0.fields), .int .i64 (i1 : Int), .rf [.str x1.name, .int .i64 x1.v.kind, .int .i64 x1.v.n, .str x1.v.s, .sl (Val.rows x1.v.list), .sl (Fld.rows x1.v.fields)], .rf [.str x1.name, .int .i64 x1.v.kind, .int .i64 x1.v.n, .str x1.v.s, .sl (Val.rows x1.v.list), .sl (Fld.rows x1.v.fields)], .str x1.name, .bx 1 4, .sl (Fld.rows p1.fields), .int .i64 (i1 : Int), .rf [.str (List.getD p1.fields i1 zF).name, .int .i64 (List.getD p1.fields i1 zF).v.kind, .int .i64 (List.getD p1.fields i1 zF).v.n, .str (List.getD p1.fields i1 zF).v.s, .sl (Val.rows (List.getD p1.fields i1 zF).v.list), .sl (Fld.rows (List.getD p1.fields i1 zF).v.fields)], .rf [.str (List.getD p1.fields i1 zF).name, .int .i64 (List.getD p1.fields i1 zF).v.kind, .int .i64 (List.getD p1.fields i1 zF).v.n, .str (List.getD p1.fields i1 zF).v.s, .sl (Val.rows (List.getD p1.fields i1 zF).v.list), .sl (Fld.rows (List.getD p1.fields i1 zF).v.fields)], .str (List.getD p1.fields i1 zF).name, .bool true, .bool true, .tup [], .tup [], .tup [], .tup [], .tup [], .tup [], .tup [], .tup [], .tup [], .tup [], .tup [], .tup [], .tup [], .tup [], .bool true]
def Qmt (p0 : Val) (p1 : Val) (_i1 : Nat) (_x1 : Fld) : List (Nat × List PV) :=
  [(0, [.int .i64 p0.kind, .int .i64 p0.n, .str p0.s, .sl (Val.rows p0.list), .sl (Fld.rows p0.fields)]), (1, [.int .i64 p1.kind, .int .i64 p1.n, .str p1.s, .sl (Val.rows p1.list), .sl (Fld.rows p1.fields)])]
theorem Q13u (p0 : Val) (p1 : Val) (H : Q9j p0 p1) (_rec : Q3u p0) (x1 : Fld) (i1 : Nat) (hx1 : p0.fields[i1]? = some x1) (_hi1 : i1 < List.length p0.fields) (hc1 : (decide ((i1 : Int) < ((List.length p0.fields) : Int))) = true) (h0 : (sEq x1.name (List.getD p1.fields i1 zF).name) = false) : Q9q p0 p1 (Q70 p0 p1 i1) (.k1) := by
 exact ⟨(envF (Qqi p0 p1 i1 x1)), (zoF (Qmt p0 p1 i1 x1)), Qh VOK.nil (x := (.ret, Q9t p0 p1 (envF (Qqi p0 p1 i1 x1)) (zoF (Qmt p0 p1 i1 x1)))) [hP 3 (Qf (Fld.rows p0.fields) (List.length p0.fields) (Fld.Q0 p0.fields)), hB 0 hc1, hP 3 (Q1k 6 (Fld.rows p0.fields) i1 _ (Fld.Qb hx1) rfl), hP 5 (Q1k 6 (Fld.rows p1.fields) i1 _ (Fld.Qb (Q21 p1.fields i1 zF ((H.2.1 i1 x1 hx1)))) rfl), hP 2 (dec (!(sEq x1.name (List.getD p1.fields i1 zF).name)) true (by rw [h0]; rfl))] [] (by kernel_rfl)⟩
theorem Qw4 (p0 : Val) (p1 : Val) (H : Q9j p0 p1) (rec : Q3u p0) : ∀ (r1 : List Fld) (i1 : Nat), List.drop i1 p0.fields = r1 → Q9q p0 p1 (Q70 p0 p1 i1) (Q5u p0 p1 r1 i1)
 | [], i1, hd => by
  have hc1 : (decide ((i1 : Int) < ((List.length p0.fields) : Int))) = false := by have := Q1g hd; simp; omega
  rw [Q5u]
  exact Q16k p0 p1 H rec i1 hc1
 | x1 :: r1, i1, hd => by
  obtain ⟨hx1, hi1, hd'⟩ := Q12 hd
  have hc1 : (decide ((i1 : Int) < ((List.length p0.fields) : Int))) = true := by simp; omega
  rw [Q5u]
  cases h0 : (sEq x1.name (List.getD p1.fields i1 zF).name) with
  | true =>
   cases h1 : (Q5f x1.v (List.getD p1.fields i1 zF).v) with
   | true =>
    exact Qtx p0 p1 (fun r hr => Q144 p0 p1 H rec x1 i1 hx1 hi1 hc1 h0 h1 hr) _ (Qw4 p0 p1 H rec r1 (i1 + 1) hd')
   | false =>
    exact Q16s p0 p1 H rec x1 i1 hx1 hi1 hc1 h0 h1
  | false =>
   exact Q13u p0 p1 H rec x1 i1 hx1 hi1 hc1 h0
theorem Q1hc (p0 : Val) (p1 : Val) (_H : Q7c p0) (_rec : Q3u p0) (h0 : (p0.kind == p1.kind) = true) (h1 : (p0.n == p1.n) = true) (h2 : (sEq p0.s p1.s) = true) (h3 : (((List.length p0.list) : Int) == ((List.length p1.list) : Int)) = true) (h4 : (((List.length p0.fields) : Int) == ((List.length p1.fields) : Int)) = true) (z5 : Nat → PV) (zo5 : Nat → List PV) (hl5 : Q6 G (Q6s p0 p1 0) (.st (.exit 0) (Q9y p0 p1 z5 zo5))) (z6 : Nat → PV) (zo6 : Nat → List PV) (hl6 : Q6 G (Q70 p0 p1 0) (.st (.exit 2) (Qct p0 p1 z6 zo6))) : Q6 G (Qei p0 p1) (.ret (.bool (true)) []) := by
 exact Q8 (fn := Ir.K26) rfl VOK.nil [hP 7 (dec (!(p0.kind == p1.kind)) false (by rw [h0]; rfl)), hP 5 (dec (!(p0.n == p1.n)) false (by rw [h1]; rfl)), hP 6 (dec (!(sEq p0.s p1.s)) false (by rw [h2]; rfl)), hP 4 (Qf (Val.rows p0.list) (List.length p0.list) (Val.Q0 p0.list)), hP 2 (Qf (Val.rows p1.list) (List.length p1.list) (Val.Q0 p1.list)), hP 0 (dec (!(((List.length p0.list) : Int) == ((List.length p1.list) : Int))) false (by rw [h3]; rfl)), hP 4 (Qf (Fld.rows p0.fields) (List.length p0.fields) (Fld.Q0 p0.fields)), hP 2 (Qf (Fld.rows p1.fields) (List.length p1.fields) (Fld.Q0 p1.fields)), hP 0 (dec (!(((List.length p0.fields) : Int) == ((List.length p1.fields) : Int))) false (by rw [h4]; rfl))] [aN hl5, aN hl6] (by kernel_rfl)
theorem Q1hu (p0 : Val) (p1 : Val) (_H : Q7c p0) (_rec : Q3u p0) (h0 : (p0.kind == p1.kind) = true) (h1 : (p0.n == p1.n) = true) (h2 : (sEq p0.s p1.s) = true) (h3 : (((List.length p0.list) : Int) == ((List.length p1.list) : Int)) = true) (h4 : (((List.length p0.fields) : Int) == ((List.length p1.fields) : Int)) = true) (z5 : Nat → PV) (zo5 : Nat → List PV) (hl5 : Q6 G (Q6s p0 p1 0) (.st (.exit 0) (Q9y p0 p1 z5 zo5))) (z6 : Nat → PV) (zo6 : Nat → List PV) (hl6 : Q6 G (Q70 p0 p1 0) (.st .ret (Q9t p0 p1 z6 zo6))) : Q6 G (Qei p0 p1) (.ret (.bool (false)) []) := by
 exact Q8 (fn := Ir.K26) rfl VOK.nil [hP 7 (dec (!(p0.kind == p1.kind)) false (by rw [h0]; rfl)), hP 5 (dec (!(p0.n == p1.n)) false (by rw [h1]; rfl)), hP 6 (dec (!(sEq p0.s p1.s)) false (by rw [h2]; rfl)), hP 4 (Qf (Val.rows p0.list) (List.length p0.list) (Val.Q0 p0.list)), hP 2 (Qf (Val.rows p1.list) (List.length p1.list) (Val.Q0 p1.list)), hP 0 (dec (!(((List.length p0.list) : Int) == ((List.length p1.list) : Int))) false (by rw [h3]; rfl)), hP 4 (Qf (Fld.rows p0.fields) (List.length p0.fields) (Fld.Q0 p0.fields)), hP 2 (Qf (Fld.rows p1.fields) (List.length p1.fields) (Fld.Q0 p1.fields)), hP 0 (dec (!(((List.length p0.fields) : Int) == ((List.length p1.fields) : Int))) false (by rw [h4]; rfl))] [aN hl5, aN hl6] (by kernel_rfl)
theorem Q1gr (p0 : Val) (p1 : Val) (_H : Q7c p0) (_rec : Q3u p0) (h0 : (p0.kind == p1.kind) = true) (h1 : (p0.n == p1.n) = true) (h2 : (sEq p0.s p1.s) = true) (h3 : (((List.length p0.list) : Int) == ((List.length p1.list) : Int)) = true) (h4 : (((List.length p0.fields) : Int) == ((List.length p1.fields) : Int)) = true) (z5 : Nat → PV) (zo5 : Nat → List PV) (hl5 : Q6 G (Q6s p0 p1 0) (.st .ret (Qdn p0 p1 z5 zo5))) : Q6 G (Qei p0 p1) (.ret (.bool (false)) []) := by
 exact Q8 (fn := Ir.K26) rfl VOK.nil [hP 7 (dec (!(p0.kind == p1.kind)) false (by rw [h0]; rfl)), hP 5 (dec (!(p0.n == p1.n)) false (by rw [h1]; rfl)), hP 6 (dec (!(sEq p0.s p1.s)) false (by rw [h2]; rfl)), hP 4 (Qf (Val.rows p0.list) (List.length p0.list) (Val.Q0 p0.list)), hP 2 (Qf (Val.rows p1.list) (List.length p1.list) (Val.Q0 p1.list)), hP 0 (dec (!(((List.length p0.list) : Int) == ((List.length p1.list) : Int))) false (by rw [h3]; rfl)), hP 4 (Qf (Fld.rows p0.fields) (List.length p0.fields) (Fld.Q0 p0.fields)), hP 2 (Qf (Fld.rows p1.fields) (List.length p1.fields) (Fld.Q0 p1.fields)), hP 0 (dec (!(((List.length p0.fields) : Int) == ((List.length p1.fields) : Int))) false (by rw [h4]; rfl))] [aN hl5] (by kernel_rfl)
theorem Q1g6 (p0 : Val) (p1 : Val) (_H : Q7c p0) (_rec : Q3u p0) (h0 : (p0.kind == p1.kind) = true) (h1 : (p0.n == p1.n) = true) (h2 : (sEq p0.s p1.s) = true) (h3 : (((List.length p0.list) : Int) == ((List.length p1.list) : Int)) = true) (h4 : (((List.length p0.fields) : Int) == ((List.length p1.fields) : Int)) = false) : Q6 G (Qei p0 p1) (.ret (.bool (false)) []) := by
 exact Q8 (fn := Ir.K26) rfl VOK.nil [hP 7 (dec (!(p0.kind == p1.kind)) false (by rw [h0]; rfl)), hP 5 (dec (!(p0.n == p1.n)) false (by rw [h1]; rfl)), hP 6 (dec (!(sEq p0.s p1.s)) false (by rw [h2]; rfl)), hP 4 (Qf (Val.rows p0.list) (List.length p0.list) (Val.Q0 p0.list)), hP 2 (Qf (Val.rows p1.list) (List.length p1.list) (Val.Q0 p1.list)), hP 0 (dec (!(((List.length p0.list) : Int) == ((List.length p1.list) : Int))) false (by rw [h3]; rfl)), hP 4 (Qf (Fld.rows p0.fields) (List.length p0.fields) (Fld.Q0 p0.fields)), hP 2 (Qf (Fld.rows p1.fields) (List.length p1.fields) (Fld.Q0 p1.fields)), hP 0 (dec (!(((List.length p0.fields) : Int) == ((List.length p1.fields) : Int))) true (by rw [h4]; rfl))] [] (by kernel_rfl)
theorem Q1i1 (p0 : Val) (p1 : Val) (_H : Q7c p0) (_rec : Q3u p0) (h0 : (p0.kind == p1.kind) = true) (h1 : (p0.n == p1.n) = true) (h2 : (sEq p0.s p1.s) = true) (h3 : (((List.length p0.list) : Int) == ((List.length p1.list) : Int)) = false) : Q6 G (Qei p0 p1) (.ret (.bool (false)) []) := by
 exact Q8 (fn := Ir.K26) rfl VOK.nil [hP 7 (dec (!(p0.kind == p1.kind)) false (by rw [h0]; rfl)), hP 5 (dec (!(p0.n == p1.n)) false (by rw [h1]; rfl)), hP 6 (dec (!(sEq p0.s p1.s)) false (by rw [h2]; rfl)), hP 4 (Qf (Val.rows p0.list) (List.length p0.list) (Val.Q0 p0.list)), hP 2 (Qf (Val.rows p1.list) (List.length p1.list) (Val.Q0 p1.list)), hP 0 (dec (!(((List.length p0.list) : Int) == ((List.length p1.list) : Int))) true (by rw [h3]; rfl))] [] (by kernel_rfl)
theorem Q1gx (p0 : Val) (p1 : Val) (_H : Q7c p0) (_rec : Q3u p0) (h0 : (p0.kind == p1.kind) = true) (h1 : (p0.n == p1.n) = true) (h2 : (sEq p0.s p1.s) = false) : Q6 G (Qei p0 p1) (.ret (.bool (false)) []) := by
 exact Q8 (fn := Ir.K26) rfl VOK.nil [hP 7 (dec (!(p0.kind == p1.kind)) false (by rw [h0]; rfl)), hP 5 (dec (!(p0.n == p1.n)) false (by rw [h1]; rfl)), hP 6 (dec (!(sEq p0.s p1.s)) true (by rw [h2]; rfl))] [] (by kernel_rfl)
theorem Q1g0 (p0 : Val) (p1 : Val) (_H : Q7c p0) (_rec : Q3u p0) (h0 : (p0.kind == p1.kind) = true) (h1 : (p0.n == p1.n) = false) : Q6 G (Qei p0 p1) (.ret (.bool (false)) []) := by
 exact Q8 (fn := Ir.K26) rfl VOK.nil [hP 7 (dec (!(p0.kind == p1.kind)) false (by rw [h0]; rfl)), hP 5 (dec (!(p0.n == p1.n)) true (by rw [h1]; rfl))] [] (by kernel_rfl)
theorem Q1gz (p0 : Val) (p1 : Val) (_H : Q7c p0) (_rec : Q3u p0) (h0 : (p0.kind == p1.kind) = false) : Q6 G (Qei p0 p1) (.ret (.bool (false)) []) := by
 exact Q8 (fn := Ir.K26) rfl VOK.nil [hP 7 (dec (!(p0.kind == p1.kind)) true (by rw [h0]; rfl))] [] (by kernel_rfl)
theorem Q1lk (p0 : Val) (p1 : Val) (H : Q7c p0) (rec : Q3u p0) : Q6 G (Qei p0 p1) (Q18d p0 p1) := by
  unfold Q18d
  rw [Q5f]
  cases h0 : (p0.kind == p1.kind) with
  | true =>
   cases h1 : (p0.n == p1.n) with
   | true =>
    cases h2 : (sEq p0.s p1.s) with
    | true =>
     cases h3 : (((List.length p0.list) : Int) == ((List.length p1.list) : Int)) with
     | true =>
      cases h4 : (((List.length p0.fields) : Int) == ((List.length p1.fields) : Int)) with
      | true =>
       have hl5 := Qwp p0 p1 ((Q11e p0 p1 H).1 h3 h4) rec p0.list 0 (by simp)
       cases hr5 : (Q5t p0 p1 p0.list 0) with
       | k0 =>
         rw [hr5] at hl5
         obtain ⟨z5, zo5, hl5⟩ := hl5
         try dsimp only
         have hl6 := Qw4 p0 p1 ((Q11e p0 p1 H).2.1 h3 h4) rec p0.fields 0 (by simp)
         cases hr6 : (Q5u p0 p1 p0.fields 0) with
         | k0 =>
           rw [hr6] at hl6
           obtain ⟨z6, zo6, hl6⟩ := hl6
           exact Q1hc p0 p1 H rec h0 h1 h2 h3 h4 z5 zo5 hl5 z6 zo6 hl6
         | k1 =>
           rw [hr6] at hl6
           obtain ⟨z6, zo6, hl6⟩ := hl6
           exact Q1hu p0 p1 H rec h0 h1 h2 h3 h4 z5 zo5 hl5 z6 zo6 hl6
       | k1 =>
         rw [hr5] at hl5
         obtain ⟨z5, zo5, hl5⟩ := hl5
         exact Q1gr p0 p1 H rec h0 h1 h2 h3 h4 z5 zo5 hl5
      | false =>
       exact Q1g6 p0 p1 H rec h0 h1 h2 h3 h4
     | false =>
      exact Q1i1 p0 p1 H rec h0 h1 h2 h3
    | false =>
     exact Q1gx p0 p1 H rec h0 h1 h2
   | false =>
    exact Q1g0 p0 p1 H rec h0 h1
  | false =>
   exact Q1gz p0 p1 H rec h0
theorem Q1jk : ∀ (k : Nat) (p0 : Val), SizeOf.sizeOf p0 < k → ∀ (p1 : Val), Q7c p0 → Q6 G (Qei p0 p1) (Q18d p0 p1)
  | 0, _, h, _, _ => absurd h (Nat.not_lt_zero _)
  | k + 1, p0, h, p1, H => Q1lk p0 p1 H (fun q hq p1 hH => Q1jk k q (by omega) p1 hH)
theorem Qz8 (p0 : Val) (p1 : Val) (H : Q7c p0) : Q6 G (Qei p0 p1) (Q18d p0 p1) := Q1jk _ p0 (Nat.lt_succ_self _) p1 H
end Go.Proofs.YtiflaadeikaghaaGreat
end

section
/- Parts of a slice of one's own, and appends of them. -/
namespace Go.Pv
end Go.Pv
end

section
/- Slices that are made with a length: their rows. -/
namespace Go.Pv
end Go.Pv
end

section
/- Rows of one's own: cleared behind a place, appended to from a place on. -/
namespace Go.Pv
theorem Val.Q2j (l : List Val) (k : Nat) (x : Val) : Val.rows (l.set k x) = (Val.rows l).set k (Val.cells x) := by simp [Val.Q3j, List.map_set]
theorem Fld.Q2j (l : List Fld) (k : Nat) (x : Fld) : Fld.rows (l.set k x) = (Fld.rows l).set k (Fld.cells x) := by simp [Fld.Q3j, List.map_set]
theorem Qzl {l : List (List PV)} {k : Nat} {r : List PV} (h : l[k]? = some r) : l = l.set k r := by
  apply List.ext_getElem?
  intro i
  rw [List.getElem?_set]
  by_cases e : k = i
  · subst e
    rw [if_pos rfl, h, if_pos (List.getElem?_eq_some_iff.1 h).1]
  · rw [if_neg e]
end Go.Pv
end

section
/- What copying values computes (printed by a program). -/
namespace Go.Proofs.YtiflaadeikaghaaGreat
open Go.Pv
def Q1kb (p0 : Val) : Val := p0
def Q10q (p0 : Val) : List Val → Nat → Unit
 | [], _i0 =>
  ()
 | _x0 :: r0, i0 =>
  Q10q p0 r0 (i0 + 1)
def Qw5 (p0 : Val) (i0 : Nat) : List PV :=
  [.un, .bx 0 0, .bx 1 0] ++ nuns 9 ++ [.ms 2 5 0 (List.length p0.list), .int .i64 ((List.length p0.list) : Int), .int .i64 (i0 : Int)] ++ nuns 33
def Qjr (p0 : Val) (_i0 : Nat) : List Ob :=
  [⟨5, 0, true, [.int .i64 p0.kind, .int .i64 p0.n, .str p0.s, .ms 2 5 0 (List.length p0.list), .sl (Fld.rows p0.fields)]⟩, ⟨5, 0, true, [.int .i64 0, .int .i64 0, .str eB, .ms 3 5 0 0, .ms 4 6 0 0]⟩, ⟨5, 0, true, (Val.rows p0.list).flatten⟩, ⟨5, 0, true, []⟩, ⟨6, 0, true, []⟩]
def Qes (p0 : Val) (i0 : Nat) : En := .loop 0 Ir.Qld Ir.Q1eg (Qw5 p0 i0) (Qjr p0 i0)
def Qng (p0 : Val) (z : Nat → PV) (_zo : Nat → List PV) : St :=
  ⟨[z 0, .bx 0 0, .bx 1 0] ++ zr z 3 45, [(0, ⟨5, 0, true, [.int .i64 p0.kind, .int .i64 p0.n, .str p0.s, .ms 2 5 0 (List.length p0.list), .sl (Fld.rows p0.fields)]⟩), (1, ⟨5, 0, true, [.int .i64 0, .int .i64 0, .str eB, .ms 3 5 0 0, .ms 4 6 0 0]⟩), (2, ⟨5, 0, true, (Val.rows p0.list).flatten⟩), (3, ⟨5, 0, true, []⟩), (4, ⟨6, 0, true, []⟩)], 69⟩
theorem Q12e (p0 : Val) (i0 : Nat) : VOK (Go.Pv.look (number 0 (Qjr p0 i0))) [(2, Val.rows p0.list)] := (VOK.cons (show Seen _ _ from Q3q (ob := ⟨5, 0, true, (Val.rows p0.list).flatten⟩) (Val.Q7 p0.list 5 rfl)) VOK.nil)
def Q9i (p0 : Val) (e : En) (_q : Unit) : Prop := ∃ z zo, Q6 G e (.st (.exit 0) (Qng p0 z zo))
theorem Qta (p0 : Val) {e e' : En} (h : ∀ r, Q6 G e r → Q6 G e' r) : ∀ q, Q9i p0 e q → Q9i p0 e' q
  | _, ⟨z, zo, hz⟩ => ⟨z, zo, h _ hz⟩
def Q10v (p0 : Val) : List Fld → Nat → Unit
 | [], _i1 =>
  ()
 | _x1 :: r1, i1 =>
  Q10v p0 r1 (i1 + 1)
def Qud (p0 : Val) (i1 : Nat) : List PV :=
  [.un, .bx 0 0, .bx 1 0] ++ nuns 28 ++ [.ms 2 6 0 (List.length p0.fields), .int .i64 ((List.length p0.fields) : Int), .int .i64 (i1 : Int)] ++ nuns 14
def Qk1 (p0 : Val) (_i1 : Nat) : List Ob :=
  [⟨5, 0, true, [.int .i64 p0.kind, .int .i64 p0.n, .str p0.s, .ms 3 5 0 (List.length p0.list), .ms 2 6 0 (List.length p0.fields)]⟩, ⟨5, 0, true, [.int .i64 0, .int .i64 0, .str eB, .ms 4 5 0 0, .ms 5 6 0 0]⟩, ⟨6, 0, true, (Fld.rows p0.fields).flatten⟩, ⟨5, 0, true, (Val.rows p0.list).flatten⟩, ⟨5, 0, true, []⟩, ⟨6, 0, true, []⟩]
def Qfk (p0 : Val) (i1 : Nat) : En := .loop 0 Ir.Qk6 Ir.Q1e3 (Qud p0 i1) (Qk1 p0 i1)
def Qqp (p0 : Val) (z : Nat → PV) (_zo : Nat → List PV) : St :=
  ⟨[z 0, .bx 0 0, .bx 1 0] ++ zr z 3 45, [(0, ⟨5, 0, true, [.int .i64 p0.kind, .int .i64 p0.n, .str p0.s, .ms 3 5 0 (List.length p0.list), .ms 2 6 0 (List.length p0.fields)]⟩), (1, ⟨5, 0, true, [.int .i64 0, .int .i64 0, .str eB, .ms 4 5 0 0, .ms 5 6 0 0]⟩), (2, ⟨6, 0, true, (Fld.rows p0.fields).flatten⟩), (3, ⟨5, 0, true, (Val.rows p0.list).flatten⟩), (4, ⟨5, 0, true, []⟩), (5, ⟨6, 0, true, []⟩)], 70⟩
theorem Q11k (p0 : Val) (i1 : Nat) : VOK (Go.Pv.look (number 0 (Qk1 p0 i1))) [(2, Fld.rows p0.fields), (3, Val.rows p0.list)] := (VOK.cons (show Seen _ _ from Q3q (ob := ⟨6, 0, true, (Fld.rows p0.fields).flatten⟩) (Fld.Q7 p0.fields 6 rfl)) (VOK.cons (show Seen _ _ from Q3q (ob := ⟨5, 0, true, (Val.rows p0.list).flatten⟩) (Val.Q7 p0.list 5 rfl)) VOK.nil))
def Q9g (p0 : Val) (e : En) (_q : Unit) : Prop := ∃ z zo, Q6 G e (.st (.exit 2) (Qqp p0 z zo))
theorem Qry (p0 : Val) {e e' : En} (h : ∀ r, Q6 G e r → Q6 G e' r) : ∀ q, Q9g p0 e q → Q9g p0 e' q
  | _, ⟨z, zo, hz⟩ => ⟨z, zo, h _ hz⟩
theorem Q1mf (p0 : Val) : Q1kb p0 = (p0) := by
  rfl
def Q1dr (p0 : Val) : En := .call 136 [.agg (Val.cells p0)] []
def Q18h (p0 : Val) : Rs := .ret (.agg (Val.cells (Q1kb p0))) []
abbrev Qn0 (p0 : Val) : Prop := Val.Sm 1000000000 p0
def Qar (p0 : Val) : Prop := ∀ (q : Val), SizeOf.sizeOf q < SizeOf.sizeOf p0 → Qn0 q → Q6 G (Q1dr q) (Q18h q)
def Qg1 (p0 : Val) : Prop := (List.length p0.list ≤ 4611686018427387904) ∧ (∀ x0 ∈ p0.list, Qn0 x0) ∧ True
def Qfc (p0 : Val) : Prop := (List.length p0.fields ≤ 4611686018427387904) ∧ (∀ x1 ∈ p0.fields, Qn0 x1.v) ∧ True
theorem Qg6 (p0 : Val) (H : Qn0 p0) : (List.length p0.list * 80 ≤ 140737488355328) ∧ (Qg1 p0) ∧ (List.length p0.fields * 96 ≤ 140737488355328) ∧ (Qfc p0) ∧ True := by
  obtain ⟨h1, h2, h3, h4⟩ := H.all
  exact ⟨by omega, ⟨by omega, h3, trivial⟩, by omega, ⟨by omega, h4, trivial⟩, trivial⟩
def Qq6 (p0 : Val) (i0 : Nat) : List PV :=
  nuns 12 ++ [.ms 2 5 0 (List.length p0.list), .int .i64 ((List.length p0.list) : Int), .int .i64 (i0 : Int), .bool false]
def Qmj (_p0 : Val) (_i0 : Nat) : List (Nat × List PV) :=
  []
theorem Q14x (p0 : Val) (_H : Qg1 p0) (_rec : Qar p0) (i0 : Nat) (hc0 : (decide ((i0 : Int) < ((List.length p0.list) : Int))) = false) : Q9i p0 (Qes p0 i0) () := by
 exact ⟨(envF (Qq6 p0 i0)), (zoF (Qmj p0 i0)), Qh (Q12e p0 i0) (x := ((.exit 0), Qng p0 (envF (Qq6 p0 i0)) (zoF (Qmj p0 i0)))) [hB 0 hc0] [] (by kernel_rfl)⟩
theorem Q176 (p0 : Val) (H : Qg1 p0) (rec : Qar p0) (x0 : Val) (i0 : Nat) (hx0 : p0.list[i0]? = some x0) (hi0 : i0 < List.length p0.list) (hc0 : (decide ((i0 : Int) < ((List.length p0.list) : Int))) = true) {r : Rs} (hr : Q6 G (Qes p0 (i0 + 1)) r) : Q6 G (Qes p0 i0) r := by
 have hB0 := H.1
 exact Qm (Q12e p0 i0) (y := (Qw5 p0 (i0 + 1), Qjr p0 (i0 + 1))) [hB 0 hc0, hP 1 (Q3l 2 5 (List.length p0.list) (i0 : Int) i0 (by omega) (by omega) (by omega)), hP 0 (Qbq 2 5 0 true ((Val.rows p0.list).flatten) (Val.rows p0.list) 5 true i0 0 (i0 * 5) (Val.cells x0) (.agg [.int .i64 x0.kind, .int .i64 x0.n, .str x0.s, .sl (Val.rows x0.list), .sl (Fld.rows x0.fields)]) rfl rfl (Val.Qb hx0) (Val.Qd p0.list) (by decide) rfl), hP 8 (Q3l 2 5 (List.length p0.list) (i0 : Int) i0 (by omega) (by omega) (by omega)), hV 0 [(2, Val.rows p0.list)] (Qd5 2 5 true ((Val.rows p0.list).flatten) (Val.rows p0.list) (Val.rows p0.list) 5 i0 0 (i0 * 5) _ (.agg [.int .i64 x0.kind, .int .i64 x0.n, .str x0.s, .sl (Val.rows x0.list), .sl (Fld.rows x0.fields)]) rfl rfl (Val.Qb hx0) (Val.Qd p0.list) (by decide) rfl rfl (Qzl (Val.Qb hx0))), hS 0 true (Val.Q7 p0.list 5 rfl), hP 0 (Q29 i0 (by omega))] [aN (rec x0 (szL hx0) (H.2.1 x0 (Q2e hx0)))] (by kernel_rfl) hr
theorem Qw0 (p0 : Val) (H : Qg1 p0) (rec : Qar p0) : ∀ (r0 : List Val) (i0 : Nat), List.drop i0 p0.list = r0 → Q9i p0 (Qes p0 i0) (Q10q p0 r0 i0)
 | [], i0, hd => by
  have hc0 : (decide ((i0 : Int) < ((List.length p0.list) : Int))) = false := by have := Q1g hd; simp; omega
  show Q9i p0 _ ()
  exact Q14x p0 H rec i0 hc0
 | x0 :: r0, i0, hd => by
  obtain ⟨hx0, hi0, hd'⟩ := Q12 hd
  have hc0 : (decide ((i0 : Int) < ((List.length p0.list) : Int))) = true := by simp; omega
  show Q9i p0 _ ()
  exact Qta p0 (fun r hr => Q176 p0 H rec x0 i0 hx0 hi0 hc0 hr) _ (Qw0 p0 H rec r0 (i0 + 1) hd')
def Qns (p0 : Val) (i1 : Nat) : List PV :=
  nuns 31 ++ [.ms 2 6 0 (List.length p0.fields), .int .i64 ((List.length p0.fields) : Int), .int .i64 (i1 : Int), .bool false]
def Qim (_p0 : Val) (_i1 : Nat) : List (Nat × List PV) :=
  []
theorem Q15g (p0 : Val) (_H : Qfc p0) (_rec : Qar p0) (i1 : Nat) (hc1 : (decide ((i1 : Int) < ((List.length p0.fields) : Int))) = false) : Q9g p0 (Qfk p0 i1) () := by
 exact ⟨(envF (Qns p0 i1)), (zoF (Qim p0 i1)), Qh (Q11k p0 i1) (x := ((.exit 2), Qqp p0 (envF (Qns p0 i1)) (zoF (Qim p0 i1)))) [hB 0 hc1] [] (by kernel_rfl)⟩
theorem Q15r (p0 : Val) (H : Qfc p0) (rec : Qar p0) (x1 : Fld) (i1 : Nat) (hx1 : p0.fields[i1]? = some x1) (hi1 : i1 < List.length p0.fields) (hc1 : (decide ((i1 : Int) < ((List.length p0.fields) : Int))) = true) {r : Rs} (hr : Q6 G (Qfk p0 (i1 + 1)) r) : Q6 G (Qfk p0 i1) r := by
 have hB0 := H.1
 exact Qm (Q11k p0 i1) (y := (Qud p0 (i1 + 1), Qk1 p0 (i1 + 1))) [hB 0 hc1, hP 1 (Q3l 2 6 (List.length p0.fields) (i1 : Int) i1 (by omega) (by omega) (by omega)), hP 0 (Qbq 2 6 0 true ((Fld.rows p0.fields).flatten) (Fld.rows p0.fields) 6 true i1 0 (i1 * 6) (Fld.cells x1) (.agg [.str x1.name, .int .i64 x1.v.kind, .int .i64 x1.v.n, .str x1.v.s, .sl (Val.rows x1.v.list), .sl (Fld.rows x1.v.fields)]) rfl rfl (Fld.Qb hx1) (Fld.Qd p0.fields) (by decide) rfl), hP 9 (Q3l 2 6 (List.length p0.fields) (i1 : Int) i1 (by omega) (by omega) (by omega)), hV 1 [(2, Fld.rows p0.fields)] (Qd5 2 6 true ((Fld.rows p0.fields).flatten) (Fld.rows p0.fields) (Fld.rows p0.fields) 5 i1 1 (i1 * 6 + 1) _ (.agg [.int .i64 x1.v.kind, .int .i64 x1.v.n, .str x1.v.s, .sl (Val.rows x1.v.list), .sl (Fld.rows x1.v.fields)]) rfl rfl (Fld.Qb hx1) (Fld.Qd p0.fields) (by decide) rfl rfl (Qzl (Fld.Qb hx1))), hS 0 true (Fld.Q7 p0.fields 6 rfl), hP 0 (Q29 i1 (by omega))] [aN (rec x1.v (szF hx1) (H.2.1 x1 (Q2e hx1)))] (by kernel_rfl) hr
theorem Qwy (p0 : Val) (H : Qfc p0) (rec : Qar p0) : ∀ (r1 : List Fld) (i1 : Nat), List.drop i1 p0.fields = r1 → Q9g p0 (Qfk p0 i1) (Q10v p0 r1 i1)
 | [], i1, hd => by
  have hc1 : (decide ((i1 : Int) < ((List.length p0.fields) : Int))) = false := by have := Q1g hd; simp; omega
  show Q9g p0 _ ()
  exact Q15g p0 H rec i1 hc1
 | x1 :: r1, i1, hd => by
  obtain ⟨hx1, hi1, hd'⟩ := Q12 hd
  have hc1 : (decide ((i1 : Int) < ((List.length p0.fields) : Int))) = true := by simp; omega
  show Q9g p0 _ ()
  exact Qry p0 (fun r hr => Q15r p0 H rec x1 i1 hx1 hi1 hc1 hr) _ (Qwy p0 H rec r1 (i1 + 1) hd')
theorem Q1m4 (p0 : Val) (H : Qn0 p0) (rec : Qar p0) : Q6 G (Q1dr p0) (Q18h p0) := by
  unfold Q18h
  rw [Q1mf]
  have hl0 := Qw0 p0 ((Qg6 p0 H).2.1) rec p0.list 0 (by simp)
  obtain ⟨z0, zo0, hl0⟩ := hl0
  have hl1 := Qwy p0 ((Qg6 p0 H).2.2.2.1) rec p0.fields 0 (by simp)
  obtain ⟨z1, zo1, hl1⟩ := hl1
  exact Q8 (fn := Ir.K42) rfl VOK.nil [hQ (Val.Q7 p0.list 5 rfl), hS 0 true (Val.Q7 p0.list 5 rfl), hQ (Fld.Q7 p0.fields 6 rfl), hS 0 true (Fld.Q7 p0.fields 6 rfl), hS 0 true (Val.Q7 p0.list 5 rfl), hQ (Val.Q0 p0.list).symm, hQ (Fld.Q0 p0.fields).symm] [aV [(0, Val.rows p0.list)] (Q7y (G := G) (f := 153) (sz := 5) (bytes := 80) rfl (Val.Q0 p0.list) (Val.Q7 p0.list 5 rfl) (Qg6 p0 H).1), aV [(2, Val.rows p0.list)] hl0, aV [(0, Fld.rows p0.fields)] (Q7y (G := G) (f := 132) (sz := 6) (bytes := 96) rfl (Fld.Q0 p0.fields) (Fld.Q7 p0.fields 6 rfl) (Qg6 p0 H).2.2.1), aV [(2, Fld.rows p0.fields), (3, Val.rows p0.list)] hl1] (by kernel_rfl)
theorem Q1ig : ∀ (k : Nat) (p0 : Val), SizeOf.sizeOf p0 < k → Qn0 p0 → Q6 G (Q1dr p0) (Q18h p0)
  | 0, _, h, _ => absurd h (Nat.not_lt_zero _)
  | k + 1, p0, h, H => Q1m4 p0 H (fun q hq hH => Q1ig k q (by omega) hH)
theorem Q1i3 (p0 : Val) (H : Qn0 p0) : Q6 G (Q1dr p0) (Q18h p0) := Q1ig _ p0 (Nat.lt_succ_self _) H
inductive Q12x where
  | k0
  | k1 (q0 : Val)
def Q73 (p0 : Val) (p1 : BA) : List Fld → Nat → Q12x
 | [], _i0 =>
  (.k0)
 | x0 :: r0, i0 =>
  bif (sEq x0.name p1) then
   (.k1 x0.v)
  else
   Q73 p0 p1 r0 (i0 + 1)
def Qvz (p0 : Val) (p1 : BA) (i0 : Nat) : List PV :=
  [.un, .str p1, .un, .un, .bx 0 0] ++ nuns 7 ++ [.sl (Fld.rows p0.fields), .int .i64 ((List.length p0.fields) : Int), .int .i64 (i0 : Int)] ++ nuns 12
def Qwc (_p0 : Val) (_p1 : BA) (_i0 : Nat) : List Ob :=
  [⟨5, 0, true, [.int .i64 0, .int .i64 0, .str eB, .ms 1 5 0 0, .ms 2 6 0 0]⟩, ⟨5, 0, true, []⟩, ⟨6, 0, true, []⟩]
def Qbz (p0 : Val) (p1 : BA) (i0 : Nat) : En := .loop 0 Ir.Qjh Ir.Q1fh (Qvz p0 p1 i0) (Qwc p0 p1 i0)
def Qqv (_p0 : Val) (_p1 : BA) (z : Nat → PV) (_zo : Nat → List PV) : St :=
  ⟨[z 0, z 1, z 2, z 3, .bx 0 0] ++ zr z 5 22, [(0, ⟨5, 0, true, [.int .i64 0, .int .i64 0, .str eB, .ms 1 5 0 0, .ms 2 6 0 0]⟩), (1, ⟨5, 0, true, []⟩), (2, ⟨6, 0, true, []⟩)], 67⟩
def Qqd (_p0 : Val) (_p1 : BA) (q0 : Val) (z : Nat → PV) (zo : Nat → List PV) : St :=
  ⟨[z 0, z 1, z 2, z 3, .bx 0 0, .bool true] ++ zr z 6 21, [(0, ⟨5, 0, true, [.int .i64 q0.kind, .int .i64 q0.n, .str q0.s, .sl (Val.rows q0.list), .sl (Fld.rows q0.fields)]⟩), (1, ⟨5, 0, true, zo 1⟩), (2, ⟨6, 0, true, zo 2⟩), (195, ⟨6, 0, true, zo 195⟩)], 899⟩
def Qco (p0 : Val) (p1 : BA) (e : En) : Q12x → Prop
  | .k0 => ∃ z zo, Q6 G e (.st (.exit 0) (Qqv p0 p1 z zo))
  | .k1 q0 => ∃ z zo, Q6 G e (.st .ret (Qqd p0 p1 q0 z zo))
theorem Qro (p0 : Val) (p1 : BA) {e e' : En} (h : ∀ r, Q6 G e r → Q6 G e' r) : ∀ q, Qco p0 p1 e q → Qco p0 p1 e' q
  | .k0, ⟨z, zo, hz⟩ => ⟨z, zo, h _ hz⟩
  | .k1 _, ⟨z, zo, hz⟩ => ⟨z, zo, h _ hz⟩
def Qc8 (p0 : Val) (_p1 : BA) : Prop := (List.length p0.fields ≤ 4611686018427387904) ∧ (∀ x0 ∈ p0.fields, Qn0 x0.v) ∧ True
def Qo3 (p0 : Val) (p1 : BA) (i0 : Nat) : List PV :=
  [.un, .str p1] ++ nuns 10 ++ [.sl (Fld.rows p0.fields), .int .i64 ((List.length p0.fields) : Int), .int .i64 (i0 : Int), .bool false]
def Qk2 (_p0 : Val) (_p1 : BA) (_i0 : Nat) : List (Nat × List PV) :=
  []
theorem Q17t (p0 : Val) (p1 : BA) (_H : Qc8 p0 p1) (i0 : Nat) (hc0 : (decide ((i0 : Int) < ((List.length p0.fields) : Int))) = false) : Qco p0 p1 (Qbz p0 p1 i0) (.k0) := by
 exact ⟨(envF (Qo3 p0 p1 i0)), (zoF (Qk2 p0 p1 i0)), Qh VOK.nil (x := ((.exit 0), Qqv p0 p1 (envF (Qo3 p0 p1 i0)) (zoF (Qk2 p0 p1 i0)))) [hB 0 hc0] [] (by kernel_rfl)⟩
def Qqu (p0 : Val) (p1 : BA) (i0 : Nat) (x0 : Fld) : List PV :=
  [.un, .str p1] ++ nuns 5 ++ [.bx 195 0, .un, .un, .un, .un, .sl (Fld.rows p0.fields), .int .i64 ((List.length p0.fields) : Int), .int .i64 (i0 : Int), .bool true, .rf [.str x0.name, .int .i64 x0.v.kind, .int .i64 x0.v.n, .str x0.v.s, .sl (Val.rows x0.v.list), .sl (Fld.rows x0.v.fields)], .agg [.str x0.name, .int .i64 x0.v.kind, .int .i64 x0.v.n, .str x0.v.s, .sl (Val.rows x0.v.list), .sl (Fld.rows x0.v.fields)], .bx 195 0, .str x0.name, .str p1, .bool true, .bx 195 1, .agg [.int .i64 x0.v.kind, .int .i64 x0.v.n, .str x0.v.s, .sl (Val.rows x0.v.list), .sl (Fld.rows x0.v.fields)], .agg [.int .i64 x0.v.kind, .int .i64 x0.v.n, .str x0.v.s, .sl (Val.rows x0.v.list), .sl (Fld.rows x0.v.fields)]]
def Ql9 (_p0 : Val) (_p1 : BA) (_i0 : Nat) (x0 : Fld) : List (Nat × List PV) :=
  [(1, []), (2, []), (195, [.str x0.name, .int .i64 x0.v.kind, .int .i64 x0.v.n, .str x0.v.s, .sl (Val.rows x0.v.list), .sl (Fld.rows x0.v.fields)])]
theorem Q16e (p0 : Val) (p1 : BA) (H : Qc8 p0 p1) (x0 : Fld) (i0 : Nat) (hx0 : p0.fields[i0]? = some x0) (_hi0 : i0 < List.length p0.fields) (hc0 : (decide ((i0 : Int) < ((List.length p0.fields) : Int))) = true) (h0 : (sEq x0.name p1) = true) : Qco p0 p1 (Qbz p0 p1 i0) (.k1 x0.v) := by
 exact ⟨(envF (Qqu p0 p1 i0 x0)), (zoF (Ql9 p0 p1 i0 x0)), Qh VOK.nil (x := (.ret, Qqd p0 p1 x0.v (envF (Qqu p0 p1 i0 x0)) (zoF (Ql9 p0 p1 i0 x0)))) [hB 0 hc0, hP 0 (Q1k 6 (Fld.rows p0.fields) i0 _ (Fld.Qb hx0) rfl), hB 6 h0] [aN (Q1i3 x0.v (H.2.1 x0 (Q2e hx0)))] (by kernel_rfl)⟩
theorem Q17v (p0 : Val) (p1 : BA) (H : Qc8 p0 p1) (x0 : Fld) (i0 : Nat) (hx0 : p0.fields[i0]? = some x0) (hi0 : i0 < List.length p0.fields) (hc0 : (decide ((i0 : Int) < ((List.length p0.fields) : Int))) = true) (h0 : (sEq x0.name p1) = false) {r : Rs} (hr : Q6 G (Qbz p0 p1 (i0 + 1)) r) : Q6 G (Qbz p0 p1 i0) r := by
 have hB0 := H.1
 exact Qm VOK.nil (y := (Qvz p0 p1 (i0 + 1), Qwc p0 p1 (i0 + 1))) [hB 0 hc0, hP 0 (Q1k 6 (Fld.rows p0.fields) i0 _ (Fld.Qb hx0) rfl), hB 6 h0, hP 0 (Q29 i0 (by omega))] [] (by kernel_rfl) hr
theorem Qyg (p0 : Val) (p1 : BA) (H : Qc8 p0 p1) : ∀ (r0 : List Fld) (i0 : Nat), List.drop i0 p0.fields = r0 → Qco p0 p1 (Qbz p0 p1 i0) (Q73 p0 p1 r0 i0)
 | [], i0, hd => by
  have hc0 : (decide ((i0 : Int) < ((List.length p0.fields) : Int))) = false := by have := Q1g hd; simp; omega
  rw [Q73]
  exact Q17t p0 p1 H i0 hc0
 | x0 :: r0, i0, hd => by
  obtain ⟨hx0, hi0, hd'⟩ := Q12 hd
  have hc0 : (decide ((i0 : Int) < ((List.length p0.fields) : Int))) = true := by simp; omega
  rw [Q73]
  cases h0 : (sEq x0.name p1) with
  | true =>
   exact Q16e p0 p1 H x0 i0 hx0 hi0 hc0 h0
  | false =>
   exact Qro p0 p1 (fun r hr => Q17v p0 p1 H x0 i0 hx0 hi0 hc0 h0 hr) _ (Qyg p0 p1 H r0 (i0 + 1) hd')
def Qt7 (p0 : Val) (p1 : BA) : Val × Bool :=
 bif (p0.kind == 5) then
  (match (Q73 p0 p1 p0.fields 0) with
  | .k0 => ((Val.mk 0 0 eB [] []), false)
  | .k1 y1_0 => (y1_0, true))
 else
  ((Val.mk 0 0 eB [] []), false)
def Q1lp (p0 : Val) (p1 : BA) : En := .call 145 [.agg (Val.cells p0), .str p1] []
def Q1ip (p0 : Val) (p1 : BA) : Rs := .ret (.tup [.agg (Val.cells (Qt7 p0 p1).1), .bool (Qt7 p0 p1).2]) []
def Q1ft (p0 : Val) (p1 : BA) : Prop := (Qc8 p0 p1) ∧ True
theorem Q1gc (p0 : Val) (p1 : BA) (H : Q1ft p0 p1) : Q6 G (Q1lp p0 p1) (Q1ip p0 p1) := by
 unfold Q1ip Qt7
 cases h0 : (p0.kind == 5) with
 | true =>
  have hl1 := Qyg p0 p1 (H.1) p0.fields 0 (by simp)
  cases hr1 : (Q73 p0 p1 p0.fields 0) with
  | k0 =>
   rw [hr1] at hl1
   obtain ⟨z1, zo1, hl1⟩ := hl1
   exact Q8 (fn := Ir.K3w) rfl VOK.nil [hB 5 h0, hP 2 (Qf (Fld.rows p0.fields) (List.length p0.fields) (Fld.Q0 p0.fields))] [aN hl1] (by kernel_rfl)
  | k1 y1_0 =>
   rw [hr1] at hl1
   obtain ⟨z1, zo1, hl1⟩ := hl1
   exact Q8 (fn := Ir.K3w) rfl VOK.nil [hB 5 h0, hP 2 (Qf (Fld.rows p0.fields) (List.length p0.fields) (Fld.Q0 p0.fields))] [aN hl1] (by kernel_rfl)
 | false =>
  exact Q8 (fn := Ir.K3w) rfl VOK.nil [hB 5 h0] [] (by kernel_rfl)
def Qmd (p0 : List Val) : Val :=
 (Val.mk 4 0 eB p0 [])
def Q1rk (p0 : List Val) : En := .call 137 [.sl (Val.rows p0)] []
def Q1jb (p0 : List Val) : Rs := .ret (.agg (Val.cells (Qmd p0))) []
def Qn5 (p0 : List Val) : Prop := (Qn0 (Val.mk 4 0 eB p0 [])) ∧ True
theorem Qs5 (p0 : List Val) (H : Qn5 p0) : Q6 G (Q1rk p0) (Q1jb p0) := by
 unfold Q1jb Qmd
 exact Q8 (fn := Ir.K3y) rfl VOK.nil [] [aN (Q1i3 (Val.mk 4 0 eB p0 []) H.1)] (by kernel_rfl)
end Go.Proofs.YtiflaadeikaghaaGreat
end

section
/- What building a map computes (printed by a program). -/
namespace Go.Proofs.YtiflaadeikaghaaGreat
open Go.Pv
def Qwv (p0 : Fld) (p1 : Fld) : Int :=
 (Q1hg p0.name p1.name)
def Q1ox (p0 : Fld) (p1 : Fld) : En := .call 134 [.agg (Fld.cells p0), .agg (Fld.cells p1)] []
def Q1kl (p0 : Fld) (p1 : Fld) : Rs := .ret (.int .i64 (Qwv p0 p1)) []
theorem Q1iu (p0 : Fld) (p1 : Fld) : Q6 G (Q1ox p0 p1) (Q1kl p0 p1) := by
 unfold Q1kl Qwv
 exact Q8 (fn := Ir.K40) rfl VOK.nil [] [aN (Q1ok p0.name p1.name)] (by kernel_rfl)
def Q3f (n0 : Nat) (p1 : Int) (p2 : Int) (v0_0 : Int) : Nat → (List Fld) → Int → List Fld
 | 0, v1_0, _v1_1 => v1_0
 | k1 + 1, v1_0, v1_1 =>
  bif (decide (p1 < v1_1)) then
   bif (decide ((Qwv (List.getD v1_0 (Int.toNat v1_1) zF) (List.getD v1_0 (Int.toNat (v1_1 - 1)) zF)) < 0)) then
    Q3f n0 p1 p2 v0_0 k1 (List.set (List.set v1_0 (Int.toNat v1_1) (List.getD v1_0 (Int.toNat (v1_1 - 1)) zF)) (Int.toNat (v1_1 - 1)) (List.getD v1_0 (Int.toNat v1_1) zF)) (v1_1 - 1)
   else
    v1_0
  else
   v1_0
def Quw (n0 : Nat) (p1 : Int) (p2 : Int) (v0_0 : Int) (_v1_0 : List Fld) (v1_1 : Int) : List PV :=
  [.ms 0 6 0 n0, .int .i64 p1, .int .i64 p2, .fn 134 [] [], .un, .un, .un, .un, .int .i64 v0_0, .int .i64 v1_1] ++ nuns 43
def Qiu (_n0 : Nat) (_p1 : Int) (_p2 : Int) (_v0_0 : Int) (v1_0 : List Fld) (_v1_1 : Int) : List Ob :=
  [⟨6, 0, false, (Fld.rows v1_0).flatten⟩]
def Qa2 (n0 : Nat) (p1 : Int) (p2 : Int) (v0_0 : Int) (v1_0 : List Fld) (v1_1 : Int) : En := .loop 1 Ir.Qjx Ir.Q1eu (Quw n0 p1 p2 v0_0 v1_0 v1_1) (Qiu n0 p1 p2 v0_0 v1_0 v1_1)
def Q9v (n0 : Nat) (p1 : Int) (p2 : Int) (v0_0 : Int) (q0 : List Fld) (z : Nat → PV) (_zo : Nat → List PV) : St :=
  ⟨[.ms 0 6 0 n0, .int .i64 p1, .int .i64 p2, .fn 134 [] [], z 4, z 5, z 6, z 7, .int .i64 v0_0] ++ zr z 9 44, [(0, ⟨6, 0, false, (Fld.rows q0).flatten⟩)], 1089⟩
theorem Qte (n0 : Nat) (p1 : Int) (p2 : Int) (v0_0 : Int) (v1_0 : List Fld) (v1_1 : Int) : VOK (Go.Pv.look (number 0 (Qiu n0 p1 p2 v0_0 v1_0 v1_1))) [(0, Fld.rows v1_0)] := (VOK.cons (show Seen _ _ from Q3q (ob := ⟨6, 0, false, (Fld.rows v1_0).flatten⟩) (Fld.Q7 v1_0 6 rfl)) VOK.nil)
def Qce (n0 : Nat) (p1 : Int) (p2 : Int) (v0_0 : Int) (e : En) (q : List Fld) : Prop := ∃ z zo, Q6 G e (.st (.exit 2) (Q9v n0 p1 p2 v0_0 q z zo))
theorem Qu3 (n0 : Nat) (p1 : Int) (p2 : Int) (v0_0 : Int) {e e' : En} (h : ∀ r, Q6 G e r → Q6 G e' r) : ∀ q, Qce n0 p1 p2 v0_0 e q → Qce n0 p1 p2 v0_0 e' q
  | _, ⟨z, zo, hz⟩ => ⟨z, zo, h _ hz⟩
theorem Q15d (n0 : Nat) (p1 : Int) (p2 : Int) (v0_0 : Int) (v1_0 : List Fld) (v1_1 : Int) (ho1_0 : 0 ≤ p1) (_ho1_1 : p1 ≤ v1_1) (ho1_2 : v1_1 < n0) (ho1_3 : (n0 : Int) ≤ 20) (ho1_4 : List.length v1_0 = n0) (h0 : (decide (p1 < v1_1)) = true) (h1 : (decide ((Qwv (List.getD v1_0 (Int.toNat v1_1) zF) (List.getD v1_0 (Int.toNat (v1_1 - 1)) zF)) < 0)) = true) {r : Rs} (hr : Q6 G (Qa2 n0 p1 p2 v0_0 (List.set (List.set v1_0 (Int.toNat v1_1) (List.getD v1_0 (Int.toNat (v1_1 - 1)) zF)) (Int.toNat (v1_1 - 1)) (List.getD v1_0 (Int.toNat v1_1) zF)) (v1_1 - 1)) r) : Q6 G (Qa2 n0 p1 p2 v0_0 v1_0 v1_1) r := by
 have e0 := of_decide_eq_true h0; have e1 := of_decide_eq_true h1
 exact Qm (Qte n0 p1 p2 v0_0 v1_0 v1_1) (y := (Quw n0 p1 p2 v0_0 (List.set (List.set v1_0 (Int.toNat v1_1) (List.getD v1_0 (Int.toNat (v1_1 - 1)) zF)) (Int.toNat (v1_1 - 1)) (List.getD v1_0 (Int.toNat v1_1) zF)) (v1_1 - 1), Qiu n0 p1 p2 v0_0 (List.set (List.set v1_0 (Int.toNat v1_1) (List.getD v1_0 (Int.toNat (v1_1 - 1)) zF)) (Int.toNat (v1_1 - 1)) (List.getD v1_0 (Int.toNat v1_1) zF)) (v1_1 - 1))) [hB 2 h0, hP 4 (Q3l 0 6 n0 v1_1 (Int.toNat v1_1) rfl (by omega) (by omega)), hP 0 (Qbq 0 6 0 false ((Fld.rows v1_0).flatten) (Fld.rows v1_0) 6 true (Int.toNat v1_1) 0 ((Int.toNat v1_1) * 6) (Fld.cells (List.getD v1_0 (Int.toNat v1_1) zF)) (.agg [.str (List.getD v1_0 (Int.toNat v1_1) zF).name, .int .i64 (List.getD v1_0 (Int.toNat v1_1) zF).v.kind, .int .i64 (List.getD v1_0 (Int.toNat v1_1) zF).v.n, .str (List.getD v1_0 (Int.toNat v1_1) zF).v.s, .sl (Val.rows (List.getD v1_0 (Int.toNat v1_1) zF).v.list), .sl (Fld.rows (List.getD v1_0 (Int.toNat v1_1) zF).v.fields)]) rfl rfl (Fld.Qb (Q21 v1_0 (Int.toNat v1_1) zF (by omega))) (Fld.Qd v1_0) (by decide) rfl), hP 2 (w_ok (v1_1 - 1) (by omega)), hP 0 (Q3l 0 6 n0 (v1_1 - 1) (Int.toNat (v1_1 - 1)) rfl (by omega) (by omega)), hP 0 (Qbq 0 6 0 false ((Fld.rows v1_0).flatten) (Fld.rows v1_0) 6 true (Int.toNat (v1_1 - 1)) 0 ((Int.toNat (v1_1 - 1)) * 6) (Fld.cells (List.getD v1_0 (Int.toNat (v1_1 - 1)) zF)) (.agg [.str (List.getD v1_0 (Int.toNat (v1_1 - 1)) zF).name, .int .i64 (List.getD v1_0 (Int.toNat (v1_1 - 1)) zF).v.kind, .int .i64 (List.getD v1_0 (Int.toNat (v1_1 - 1)) zF).v.n, .str (List.getD v1_0 (Int.toNat (v1_1 - 1)) zF).v.s, .sl (Val.rows (List.getD v1_0 (Int.toNat (v1_1 - 1)) zF).v.list), .sl (Fld.rows (List.getD v1_0 (Int.toNat (v1_1 - 1)) zF).v.fields)]) rfl rfl (Fld.Qb (Q21 v1_0 (Int.toNat (v1_1 - 1)) zF (by omega))) (Fld.Qd v1_0) (by decide) rfl), hB 1 h1, hP 5 (w_ok (v1_1 - 1) (by omega)), hP 2 (w_ok (v1_1 - 1) (by omega)), hP 0 (Q3l 0 6 n0 (v1_1 - 1) (Int.toNat (v1_1 - 1)) rfl (by omega) (by omega)), hP 0 (Qbq 0 6 0 false ((Fld.rows v1_0).flatten) (Fld.rows v1_0) 6 true (Int.toNat (v1_1 - 1)) 0 ((Int.toNat (v1_1 - 1)) * 6) (Fld.cells (List.getD v1_0 (Int.toNat (v1_1 - 1)) zF)) (.agg [.str (List.getD v1_0 (Int.toNat (v1_1 - 1)) zF).name, .int .i64 (List.getD v1_0 (Int.toNat (v1_1 - 1)) zF).v.kind, .int .i64 (List.getD v1_0 (Int.toNat (v1_1 - 1)) zF).v.n, .str (List.getD v1_0 (Int.toNat (v1_1 - 1)) zF).v.s, .sl (Val.rows (List.getD v1_0 (Int.toNat (v1_1 - 1)) zF).v.list), .sl (Fld.rows (List.getD v1_0 (Int.toNat (v1_1 - 1)) zF).v.fields)]) rfl rfl (Fld.Qb (Q21 v1_0 (Int.toNat (v1_1 - 1)) zF (by omega))) (Fld.Qd v1_0) (by decide) rfl), hP 2 (Q3l 0 6 n0 v1_1 (Int.toNat v1_1) rfl (by omega) (by omega)), hP 0 (Qbq 0 6 0 false ((Fld.rows v1_0).flatten) (Fld.rows v1_0) 6 true (Int.toNat v1_1) 0 ((Int.toNat v1_1) * 6) (Fld.cells (List.getD v1_0 (Int.toNat v1_1) zF)) (.agg [.str (List.getD v1_0 (Int.toNat v1_1) zF).name, .int .i64 (List.getD v1_0 (Int.toNat v1_1) zF).v.kind, .int .i64 (List.getD v1_0 (Int.toNat v1_1) zF).v.n, .str (List.getD v1_0 (Int.toNat v1_1) zF).v.s, .sl (Val.rows (List.getD v1_0 (Int.toNat v1_1) zF).v.list), .sl (Fld.rows (List.getD v1_0 (Int.toNat v1_1) zF).v.fields)]) rfl rfl (Fld.Qb (Q21 v1_0 (Int.toNat v1_1) zF (by omega))) (Fld.Qd v1_0) (by decide) rfl), hP 0 (Q3l 0 6 n0 v1_1 (Int.toNat v1_1) rfl (by omega) (by omega)), hV 0 [(0, Fld.rows (List.set v1_0 (Int.toNat v1_1) (List.getD v1_0 (Int.toNat (v1_1 - 1)) zF)))] (Qd5 0 6 false ((Fld.rows v1_0).flatten) (Fld.rows v1_0) (Fld.rows (List.set v1_0 (Int.toNat v1_1) (List.getD v1_0 (Int.toNat (v1_1 - 1)) zF))) 6 (Int.toNat v1_1) 0 ((Int.toNat v1_1) * 6) _ (.agg [.str (List.getD v1_0 (Int.toNat (v1_1 - 1)) zF).name, .int .i64 (List.getD v1_0 (Int.toNat (v1_1 - 1)) zF).v.kind, .int .i64 (List.getD v1_0 (Int.toNat (v1_1 - 1)) zF).v.n, .str (List.getD v1_0 (Int.toNat (v1_1 - 1)) zF).v.s, .sl (Val.rows (List.getD v1_0 (Int.toNat (v1_1 - 1)) zF).v.list), .sl (Fld.rows (List.getD v1_0 (Int.toNat (v1_1 - 1)) zF).v.fields)]) rfl rfl (Fld.Qb (Q21 v1_0 (Int.toNat v1_1) zF (by omega))) (Fld.Qd v1_0) (by decide) rfl rfl (Fld.Q2j v1_0 (Int.toNat v1_1) (List.getD v1_0 (Int.toNat (v1_1 - 1)) zF))), hS 0 false (Fld.Q7 (List.set v1_0 (Int.toNat v1_1) (List.getD v1_0 (Int.toNat (v1_1 - 1)) zF)) 6 rfl), hP 0 (Q3l 0 6 n0 (v1_1 - 1) (Int.toNat (v1_1 - 1)) rfl (by have f0 := (Q3p ho1_4 (Int.toNat v1_1) (List.getD v1_0 (Int.toNat (v1_1 - 1)) zF)); omega) (by have f0 := (Q3p ho1_4 (Int.toNat v1_1) (List.getD v1_0 (Int.toNat (v1_1 - 1)) zF)); omega)), hV 0 [(0, Fld.rows (List.set (List.set v1_0 (Int.toNat v1_1) (List.getD v1_0 (Int.toNat (v1_1 - 1)) zF)) (Int.toNat (v1_1 - 1)) (List.getD v1_0 (Int.toNat v1_1) zF)))] (Qd5 0 6 false ((Fld.rows (List.set v1_0 (Int.toNat v1_1) (List.getD v1_0 (Int.toNat (v1_1 - 1)) zF))).flatten) (Fld.rows (List.set v1_0 (Int.toNat v1_1) (List.getD v1_0 (Int.toNat (v1_1 - 1)) zF))) (Fld.rows (List.set (List.set v1_0 (Int.toNat v1_1) (List.getD v1_0 (Int.toNat (v1_1 - 1)) zF)) (Int.toNat (v1_1 - 1)) (List.getD v1_0 (Int.toNat v1_1) zF))) 6 (Int.toNat (v1_1 - 1)) 0 ((Int.toNat (v1_1 - 1)) * 6) _ (.agg [.str (List.getD v1_0 (Int.toNat v1_1) zF).name, .int .i64 (List.getD v1_0 (Int.toNat v1_1) zF).v.kind, .int .i64 (List.getD v1_0 (Int.toNat v1_1) zF).v.n, .str (List.getD v1_0 (Int.toNat v1_1) zF).v.s, .sl (Val.rows (List.getD v1_0 (Int.toNat v1_1) zF).v.list), .sl (Fld.rows (List.getD v1_0 (Int.toNat v1_1) zF).v.fields)]) rfl rfl (Fld.Qb (Q21 (List.set v1_0 (Int.toNat v1_1) (List.getD v1_0 (Int.toNat (v1_1 - 1)) zF)) (Int.toNat (v1_1 - 1)) zF (by have f0 := (Q3p ho1_4 (Int.toNat v1_1) (List.getD v1_0 (Int.toNat (v1_1 - 1)) zF)); try simp only [List.length_set]; omega))) (Fld.Qd (List.set v1_0 (Int.toNat v1_1) (List.getD v1_0 (Int.toNat (v1_1 - 1)) zF))) (by decide) rfl rfl (Fld.Q2j (List.set v1_0 (Int.toNat v1_1) (List.getD v1_0 (Int.toNat (v1_1 - 1)) zF)) (Int.toNat (v1_1 - 1)) (List.getD v1_0 (Int.toNat v1_1) zF))), hS 0 false (Fld.Q7 (List.set (List.set v1_0 (Int.toNat v1_1) (List.getD v1_0 (Int.toNat (v1_1 - 1)) zF)) (Int.toNat (v1_1 - 1)) (List.getD v1_0 (Int.toNat v1_1) zF)) 6 rfl), hP 1 (w_ok (v1_1 - 1) (by have f0 := (Q3p (Q3p ho1_4 (Int.toNat v1_1) (List.getD v1_0 (Int.toNat (v1_1 - 1)) zF)) (Int.toNat (v1_1 - 1)) (List.getD v1_0 (Int.toNat v1_1) zF)); omega))] [aN (Q1iu (List.getD v1_0 (Int.toNat v1_1) zF) (List.getD v1_0 (Int.toNat (v1_1 - 1)) zF))] (by kernel_rfl) hr
def Qoq (n0 : Nat) (p1 : Int) (_p2 : Int) (_v0_0 : Int) (v1_0 : List Fld) (v1_1 : Int) : List PV :=
  nuns 9 ++ [.int .i64 v1_1] ++ nuns 8 ++ [.int .i64 v1_1, .int .i64 p1, .bool true, .bool true, .fn 134 [] [], .ms 0 6 0 n0, .int .i64 v1_1, .bx 0 ((Int.toNat v1_1) * 6), .agg [.str (List.getD v1_0 (Int.toNat v1_1) zF).name, .int .i64 (List.getD v1_0 (Int.toNat v1_1) zF).v.kind, .int .i64 (List.getD v1_0 (Int.toNat v1_1) zF).v.n, .str (List.getD v1_0 (Int.toNat v1_1) zF).v.s, .sl (Val.rows (List.getD v1_0 (Int.toNat v1_1) zF).v.list), .sl (Fld.rows (List.getD v1_0 (Int.toNat v1_1) zF).v.fields)], .ms 0 6 0 n0, .int .i64 v1_1, .int .i64 (v1_1 - 1), .bx 0 ((Int.toNat (v1_1 - 1)) * 6), .agg [.str (List.getD v1_0 (Int.toNat (v1_1 - 1)) zF).name, .int .i64 (List.getD v1_0 (Int.toNat (v1_1 - 1)) zF).v.kind, .int .i64 (List.getD v1_0 (Int.toNat (v1_1 - 1)) zF).v.n, .str (List.getD v1_0 (Int.toNat (v1_1 - 1)) zF).v.s, .sl (Val.rows (List.getD v1_0 (Int.toNat (v1_1 - 1)) zF).v.list), .sl (Fld.rows (List.getD v1_0 (Int.toNat (v1_1 - 1)) zF).v.fields)], .int .i64 (Qwv (List.getD v1_0 (Int.toNat v1_1) zF) (List.getD v1_0 (Int.toNat (v1_1 - 1)) zF)), .bool false, .bool false]
def Qmg (_n0 : Nat) (_p1 : Int) (_p2 : Int) (_v0_0 : Int) (_v1_0 : List Fld) (_v1_1 : Int) : List (Nat × List PV) :=
  []
theorem Q15x (n0 : Nat) (p1 : Int) (p2 : Int) (v0_0 : Int) (v1_0 : List Fld) (v1_1 : Int) (ho1_0 : 0 ≤ p1) (_ho1_1 : p1 ≤ v1_1) (ho1_2 : v1_1 < n0) (ho1_3 : (n0 : Int) ≤ 20) (ho1_4 : List.length v1_0 = n0) (h0 : (decide (p1 < v1_1)) = true) (h1 : (decide ((Qwv (List.getD v1_0 (Int.toNat v1_1) zF) (List.getD v1_0 (Int.toNat (v1_1 - 1)) zF)) < 0)) = false) : Qce n0 p1 p2 v0_0 (Qa2 n0 p1 p2 v0_0 v1_0 v1_1) v1_0 := by
 have e0 := of_decide_eq_true h0; have e1 := of_decide_eq_false h1
 exact ⟨(envF (Qoq n0 p1 p2 v0_0 v1_0 v1_1)), (zoF (Qmg n0 p1 p2 v0_0 v1_0 v1_1)), Qh (Qte n0 p1 p2 v0_0 v1_0 v1_1) (x := ((.exit 2), Q9v n0 p1 p2 v0_0 v1_0 (envF (Qoq n0 p1 p2 v0_0 v1_0 v1_1)) (zoF (Qmg n0 p1 p2 v0_0 v1_0 v1_1)))) [hB 2 h0, hP 4 (Q3l 0 6 n0 v1_1 (Int.toNat v1_1) rfl (by omega) (by omega)), hP 0 (Qbq 0 6 0 false ((Fld.rows v1_0).flatten) (Fld.rows v1_0) 6 true (Int.toNat v1_1) 0 ((Int.toNat v1_1) * 6) (Fld.cells (List.getD v1_0 (Int.toNat v1_1) zF)) (.agg [.str (List.getD v1_0 (Int.toNat v1_1) zF).name, .int .i64 (List.getD v1_0 (Int.toNat v1_1) zF).v.kind, .int .i64 (List.getD v1_0 (Int.toNat v1_1) zF).v.n, .str (List.getD v1_0 (Int.toNat v1_1) zF).v.s, .sl (Val.rows (List.getD v1_0 (Int.toNat v1_1) zF).v.list), .sl (Fld.rows (List.getD v1_0 (Int.toNat v1_1) zF).v.fields)]) rfl rfl (Fld.Qb (Q21 v1_0 (Int.toNat v1_1) zF (by omega))) (Fld.Qd v1_0) (by decide) rfl), hP 2 (w_ok (v1_1 - 1) (by omega)), hP 0 (Q3l 0 6 n0 (v1_1 - 1) (Int.toNat (v1_1 - 1)) rfl (by omega) (by omega)), hP 0 (Qbq 0 6 0 false ((Fld.rows v1_0).flatten) (Fld.rows v1_0) 6 true (Int.toNat (v1_1 - 1)) 0 ((Int.toNat (v1_1 - 1)) * 6) (Fld.cells (List.getD v1_0 (Int.toNat (v1_1 - 1)) zF)) (.agg [.str (List.getD v1_0 (Int.toNat (v1_1 - 1)) zF).name, .int .i64 (List.getD v1_0 (Int.toNat (v1_1 - 1)) zF).v.kind, .int .i64 (List.getD v1_0 (Int.toNat (v1_1 - 1)) zF).v.n, .str (List.getD v1_0 (Int.toNat (v1_1 - 1)) zF).v.s, .sl (Val.rows (List.getD v1_0 (Int.toNat (v1_1 - 1)) zF).v.list), .sl (Fld.rows (List.getD v1_0 (Int.toNat (v1_1 - 1)) zF).v.fields)]) rfl rfl (Fld.Qb (Q21 v1_0 (Int.toNat (v1_1 - 1)) zF (by omega))) (Fld.Qd v1_0) (by decide) rfl), hB 1 h1] [aN (Q1iu (List.getD v1_0 (Int.toNat v1_1) zF) (List.getD v1_0 (Int.toNat (v1_1 - 1)) zF))] (by kernel_rfl)⟩
def Qqn (_n0 : Nat) (p1 : Int) (_p2 : Int) (_v0_0 : Int) (_v1_0 : List Fld) (v1_1 : Int) : List PV :=
  nuns 9 ++ [.int .i64 v1_1] ++ nuns 8 ++ [.int .i64 v1_1, .int .i64 p1, .bool false, .bool false, .tup [], .tup [], .tup [], .tup [], .tup [], .tup [], .tup [], .tup [], .tup [], .tup [], .tup [], .tup [], .bool false]
def Qkr (_n0 : Nat) (_p1 : Int) (_p2 : Int) (_v0_0 : Int) (_v1_0 : List Fld) (_v1_1 : Int) : List (Nat × List PV) :=
  []
theorem Q16y (n0 : Nat) (p1 : Int) (p2 : Int) (v0_0 : Int) (v1_0 : List Fld) (v1_1 : Int) (_ho1_0 : 0 ≤ p1) (_ho1_1 : p1 ≤ v1_1) (_ho1_2 : v1_1 < n0) (_ho1_3 : (n0 : Int) ≤ 20) (_ho1_4 : List.length v1_0 = n0) (h0 : (decide (p1 < v1_1)) = false) : Qce n0 p1 p2 v0_0 (Qa2 n0 p1 p2 v0_0 v1_0 v1_1) v1_0 := by
 exact ⟨(envF (Qqn n0 p1 p2 v0_0 v1_0 v1_1)), (zoF (Qkr n0 p1 p2 v0_0 v1_0 v1_1)), Qh (Qte n0 p1 p2 v0_0 v1_0 v1_1) (x := ((.exit 2), Q9v n0 p1 p2 v0_0 v1_0 (envF (Qqn n0 p1 p2 v0_0 v1_0 v1_1)) (zoF (Qkr n0 p1 p2 v0_0 v1_0 v1_1)))) [hB 2 h0] [] (by kernel_rfl)⟩
theorem Quz (n0 : Nat) (p1 : Int) (p2 : Int) (v0_0 : Int) : ∀ (k1 : Nat) (v1_0 : List Fld) (v1_1 : Int), 0 ≤ p1 → p1 ≤ v1_1 → v1_1 < n0 → (n0 : Int) ≤ 20 → List.length v1_0 = n0 → Int.toNat v1_1 < k1 → Qce n0 p1 p2 v0_0 (Qa2 n0 p1 p2 v0_0 v1_0 v1_1) (Q3f n0 p1 p2 v0_0 k1 v1_0 v1_1)
 | 0, v1_0, v1_1, _, _, _, _, _, hm => absurd hm (Nat.not_lt_zero _)
 | k1 + 1, v1_0, v1_1, ho1_0, ho1_1, ho1_2, ho1_3, ho1_4, hm => by
  rw [Q3f]
  cases h0 : (decide (p1 < v1_1)) with
  | true =>
   have e0 := of_decide_eq_true h0
   cases h1 : (decide ((Qwv (List.getD v1_0 (Int.toNat v1_1) zF) (List.getD v1_0 (Int.toNat (v1_1 - 1)) zF)) < 0)) with
   | true =>
    have e1 := of_decide_eq_true h1
    exact Qu3 n0 p1 p2 v0_0 (fun r hr => Q15d n0 p1 p2 v0_0 v1_0 v1_1 ho1_0 ho1_1 ho1_2 ho1_3 ho1_4 h0 h1 hr) _ (Quz n0 p1 p2 v0_0 k1 (List.set (List.set v1_0 (Int.toNat v1_1) (List.getD v1_0 (Int.toNat (v1_1 - 1)) zF)) (Int.toNat (v1_1 - 1)) (List.getD v1_0 (Int.toNat v1_1) zF)) (v1_1 - 1) (by have f0 := (Q3p (Q3p ho1_4 (Int.toNat v1_1) (List.getD v1_0 (Int.toNat (v1_1 - 1)) zF)) (Int.toNat (v1_1 - 1)) (List.getD v1_0 (Int.toNat v1_1) zF)); omega) (by have f0 := (Q3p (Q3p ho1_4 (Int.toNat v1_1) (List.getD v1_0 (Int.toNat (v1_1 - 1)) zF)) (Int.toNat (v1_1 - 1)) (List.getD v1_0 (Int.toNat v1_1) zF)); omega) (by have f0 := (Q3p (Q3p ho1_4 (Int.toNat v1_1) (List.getD v1_0 (Int.toNat (v1_1 - 1)) zF)) (Int.toNat (v1_1 - 1)) (List.getD v1_0 (Int.toNat v1_1) zF)); omega) (by have f0 := (Q3p (Q3p ho1_4 (Int.toNat v1_1) (List.getD v1_0 (Int.toNat (v1_1 - 1)) zF)) (Int.toNat (v1_1 - 1)) (List.getD v1_0 (Int.toNat v1_1) zF)); omega) (Q3p (Q3p ho1_4 (Int.toNat v1_1) (List.getD v1_0 (Int.toNat (v1_1 - 1)) zF)) (Int.toNat (v1_1 - 1)) (List.getD v1_0 (Int.toNat v1_1) zF)) (by have f0 := (Q3p (Q3p ho1_4 (Int.toNat v1_1) (List.getD v1_0 (Int.toNat (v1_1 - 1)) zF)) (Int.toNat (v1_1 - 1)) (List.getD v1_0 (Int.toNat v1_1) zF)); omega))
   | false =>
    exact Q15x n0 p1 p2 v0_0 v1_0 v1_1 ho1_0 ho1_1 ho1_2 ho1_3 ho1_4 h0 h1
  | false =>
   exact Q16y n0 p1 p2 v0_0 v1_0 v1_1 ho1_0 ho1_1 ho1_2 ho1_3 ho1_4 h0
theorem Q3r (n0 : Nat) (p1 : Int) (p2 : Int) (v0_0 : Int) : ∀ (k1 : Nat) (v1_0 : List Fld) (v1_1 : Int), List.length v1_0 = n0 → List.length (Q3f n0 p1 p2 v0_0 k1 v1_0 v1_1) = n0
 | 0, v1_0, v1_1, ho1_4 => by rw [Q3f]; exact ho1_4
 | k1 + 1, v1_0, v1_1, ho1_4 => by
  rw [Q3f]
  cases h0 : (decide (p1 < v1_1)) with
  | true =>
   cases h1 : (decide ((Qwv (List.getD v1_0 (Int.toNat v1_1) zF) (List.getD v1_0 (Int.toNat (v1_1 - 1)) zF)) < 0)) with
   | true =>
    exact Q3r n0 p1 p2 v0_0 k1 (List.set (List.set v1_0 (Int.toNat v1_1) (List.getD v1_0 (Int.toNat (v1_1 - 1)) zF)) (Int.toNat (v1_1 - 1)) (List.getD v1_0 (Int.toNat v1_1) zF)) (v1_1 - 1) (Q3p (Q3p ho1_4 (Int.toNat v1_1) (List.getD v1_0 (Int.toNat (v1_1 - 1)) zF)) (Int.toNat (v1_1 - 1)) (List.getD v1_0 (Int.toNat v1_1) zF))
   | false =>
    exact ho1_4
  | false =>
   exact ho1_4
def Q45 (n0 : Nat) (p1 : Int) (p2 : Int) : Nat → Int → (List Fld) → List Fld
 | 0, _v0_0, v0_1 => v0_1
 | k0 + 1, v0_0, v0_1 =>
  bif (decide (v0_0 < p2)) then
   Q45 n0 p1 p2 k0 (v0_0 + 1) (Q3f n0 p1 p2 v0_0 ((Int.toNat v0_0) + 1) v0_1 v0_0)
  else
   v0_1
def Qw1 (n0 : Nat) (p1 : Int) (p2 : Int) (v0_0 : Int) (_v0_1 : List Fld) : List PV :=
  [.ms 0 6 0 n0, .int .i64 p1, .int .i64 p2, .fn 134 [] [], .un, .un, .un, .un, .int .i64 v0_0] ++ nuns 44
def Qm3 (_n0 : Nat) (_p1 : Int) (_p2 : Int) (_v0_0 : Int) (v0_1 : List Fld) : List Ob :=
  [⟨6, 0, false, (Fld.rows v0_1).flatten⟩]
def Qg2 (n0 : Nat) (p1 : Int) (p2 : Int) (v0_0 : Int) (v0_1 : List Fld) : En := .loop 1 Ir.Qie Ir.Q1f0 (Qw1 n0 p1 p2 v0_0 v0_1) (Qm3 n0 p1 p2 v0_0 v0_1)
def Qnt (_n0 : Nat) (_p1 : Int) (_p2 : Int) (q0 : List Fld) (z : Nat → PV) (_zo : Nat → List PV) : St :=
  ⟨zr z 0 53, [(0, ⟨6, 0, false, (Fld.rows q0).flatten⟩)], 193⟩
theorem Q132 (n0 : Nat) (p1 : Int) (p2 : Int) (v0_0 : Int) (v0_1 : List Fld) : VOK (Go.Pv.look (number 0 (Qm3 n0 p1 p2 v0_0 v0_1))) [(0, Fld.rows v0_1)] := (VOK.cons (show Seen _ _ from Q3q (ob := ⟨6, 0, false, (Fld.rows v0_1).flatten⟩) (Fld.Q7 v0_1 6 rfl)) VOK.nil)
def Qew (n0 : Nat) (p1 : Int) (p2 : Int) (e : En) (q : List Fld) : Prop := ∃ z zo, Q6 G e (.st (.exit 0) (Qnt n0 p1 p2 q z zo))
theorem Qtz (n0 : Nat) (p1 : Int) (p2 : Int) {e e' : En} (h : ∀ r, Q6 G e r → Q6 G e' r) : ∀ q, Qew n0 p1 p2 e q → Qew n0 p1 p2 e' q
  | _, ⟨z, zo, hz⟩ => ⟨z, zo, h _ hz⟩
theorem Q13w (n0 : Nat) (p1 : Int) (p2 : Int) (v0_0 : Int) (v0_1 : List Fld) (ho0_0 : 0 ≤ p1) (ho0_1 : p1 < v0_0) (ho0_2 : p2 ≤ n0) (ho0_3 : (n0 : Int) ≤ 20) (ho0_4 : List.length v0_1 = n0) (h0 : (decide (v0_0 < p2)) = true) (z1 : Nat → PV) (zo1 : Nat → List PV) (hl1 : Q6 G (Qa2 n0 p1 p2 v0_0 v0_1 v0_0) (.st (.exit 2) (Q9v n0 p1 p2 v0_0 (Q3f n0 p1 p2 v0_0 ((Int.toNat v0_0) + 1) v0_1 v0_0) z1 zo1))) {r : Rs} (hr : Q6 G (Qg2 n0 p1 p2 (v0_0 + 1) (Q3f n0 p1 p2 v0_0 ((Int.toNat v0_0) + 1) v0_1 v0_0)) r) : Q6 G (Qg2 n0 p1 p2 v0_0 v0_1) r := by
 have e0 := of_decide_eq_true h0
 exact Qm (Q132 n0 p1 p2 v0_0 v0_1) (y := (Qw1 n0 p1 p2 (v0_0 + 1) (Q3f n0 p1 p2 v0_0 ((Int.toNat v0_0) + 1) v0_1 v0_0), Qm3 n0 p1 p2 (v0_0 + 1) (Q3f n0 p1 p2 v0_0 ((Int.toNat v0_0) + 1) v0_1 v0_0))) [hB 2 h0, hS 0 false (Fld.Q7 (Q3f n0 p1 p2 v0_0 ((Int.toNat v0_0) + 1) v0_1 v0_0) 6 rfl), hP 3 (w_ok (v0_0 + 1) (by have f0 := (Q3r n0 p1 p2 v0_0 ((Int.toNat v0_0) + 1) v0_1 v0_0 ho0_4); omega))] [aV [(0, Fld.rows (Q3f n0 p1 p2 v0_0 ((Int.toNat v0_0) + 1) v0_1 v0_0))] hl1] (by kernel_rfl) hr
def Qoy (n0 : Nat) (p1 : Int) (p2 : Int) (v0_0 : Int) (_v0_1 : List Fld) : List PV :=
  [.ms 0 6 0 n0, .int .i64 p1, .int .i64 p2, .fn 134 [] [], .un, .un, .un, .un, .int .i64 v0_0, .un, .un, .un, .int .i64 v0_0, .int .i64 p2, .bool false]
def Qhl (_n0 : Nat) (_p1 : Int) (_p2 : Int) (_v0_0 : Int) (_v0_1 : List Fld) : List (Nat × List PV) :=
  []
theorem Q13r (n0 : Nat) (p1 : Int) (p2 : Int) (v0_0 : Int) (v0_1 : List Fld) (_ho0_0 : 0 ≤ p1) (_ho0_1 : p1 < v0_0) (_ho0_2 : p2 ≤ n0) (_ho0_3 : (n0 : Int) ≤ 20) (_ho0_4 : List.length v0_1 = n0) (h0 : (decide (v0_0 < p2)) = false) : Qew n0 p1 p2 (Qg2 n0 p1 p2 v0_0 v0_1) v0_1 := by
 exact ⟨(envF (Qoy n0 p1 p2 v0_0 v0_1)), (zoF (Qhl n0 p1 p2 v0_0 v0_1)), Qh (Q132 n0 p1 p2 v0_0 v0_1) (x := ((.exit 0), Qnt n0 p1 p2 v0_1 (envF (Qoy n0 p1 p2 v0_0 v0_1)) (zoF (Qhl n0 p1 p2 v0_0 v0_1)))) [hB 2 h0] [] (by kernel_rfl)⟩
theorem Qug (n0 : Nat) (p1 : Int) (p2 : Int) : ∀ (k0 : Nat) (v0_0 : Int) (v0_1 : List Fld), 0 ≤ p1 → p1 < v0_0 → p2 ≤ n0 → (n0 : Int) ≤ 20 → List.length v0_1 = n0 → Int.toNat (p2 - v0_0) < k0 → Qew n0 p1 p2 (Qg2 n0 p1 p2 v0_0 v0_1) (Q45 n0 p1 p2 k0 v0_0 v0_1)
 | 0, v0_0, v0_1, _, _, _, _, _, hm => absurd hm (Nat.not_lt_zero _)
 | k0 + 1, v0_0, v0_1, ho0_0, ho0_1, ho0_2, ho0_3, ho0_4, hm => by
  rw [Q45]
  cases h0 : (decide (v0_0 < p2)) with
  | true =>
   have e0 := of_decide_eq_true h0
   have hl1 := Quz n0 p1 p2 v0_0 ((Int.toNat v0_0) + 1) v0_1 v0_0 (by omega) (by omega) (by omega) (by omega) ho0_4 (by omega)
   obtain ⟨z1, zo1, hl1⟩ := hl1
   exact Qtz n0 p1 p2 (fun r hr => Q13w n0 p1 p2 v0_0 v0_1 ho0_0 ho0_1 ho0_2 ho0_3 ho0_4 h0 z1 zo1 hl1 hr) _ (Qug n0 p1 p2 k0 (v0_0 + 1) (Q3f n0 p1 p2 v0_0 ((Int.toNat v0_0) + 1) v0_1 v0_0) (by have f0 := (Q3r n0 p1 p2 v0_0 ((Int.toNat v0_0) + 1) v0_1 v0_0 ho0_4); omega) (by have f0 := (Q3r n0 p1 p2 v0_0 ((Int.toNat v0_0) + 1) v0_1 v0_0 ho0_4); omega) (by have f0 := (Q3r n0 p1 p2 v0_0 ((Int.toNat v0_0) + 1) v0_1 v0_0 ho0_4); omega) (by have f0 := (Q3r n0 p1 p2 v0_0 ((Int.toNat v0_0) + 1) v0_1 v0_0 ho0_4); omega) (Q3r n0 p1 p2 v0_0 ((Int.toNat v0_0) + 1) v0_1 v0_0 ho0_4) (by have f0 := (Q3r n0 p1 p2 v0_0 ((Int.toNat v0_0) + 1) v0_1 v0_0 ho0_4); omega))
  | false =>
   exact Q13r n0 p1 p2 v0_0 v0_1 ho0_0 ho0_1 ho0_2 ho0_3 ho0_4 h0
theorem Qas (n0 : Nat) (p1 : Int) (p2 : Int) : ∀ (k0 : Nat) (v0_0 : Int) (v0_1 : List Fld), List.length v0_1 = n0 → List.length (Q45 n0 p1 p2 k0 v0_0 v0_1) = n0
 | 0, v0_0, v0_1, ho0_4 => by rw [Q45]; exact ho0_4
 | k0 + 1, v0_0, v0_1, ho0_4 => by
  rw [Q45]
  cases h0 : (decide (v0_0 < p2)) with
  | true =>
   exact Qas n0 p1 p2 k0 (v0_0 + 1) (Q3f n0 p1 p2 v0_0 ((Int.toNat v0_0) + 1) v0_1 v0_0) (Q3r n0 p1 p2 v0_0 ((Int.toNat v0_0) + 1) v0_1 v0_0 ho0_4)
  | false =>
   exact ho0_4
def Q27 (n0 : Nat) (p0 : List Fld) (p1 : Int) (p2 : Int) : List Fld :=
 (Q45 n0 p1 p2 ((Int.toNat (p2 - (p1 + 1))) + 1) (p1 + 1) p0)
def Q145 (n0 : Nat) (p0 : List Fld) (p1 : Int) (p2 : Int) : En := .call 155 [.ms 0 6 0 n0, .int .i64 p1, .int .i64 p2, .fn 134 [] []] [⟨6, 0, false, (Fld.rows p0).flatten⟩]
def Qr7 (n0 : Nat) (p0 : List Fld) (p1 : Int) (p2 : Int) : Rs := .ret (.tup []) [⟨6, 0, false, (Fld.rows (Q27 n0 p0 p1 p2)).flatten⟩]
theorem Q1o (n0 : Nat) (p0 : List Fld) (p1 : Int) (p2 : Int) (hn : List.length p0 = n0) : List.length (Q27 n0 p0 p1 p2) = n0 := by
 unfold Q27
 have hz0_0 : List.length (Q45 n0 p1 p2 ((Int.toNat (p2 - (p1 + 1))) + 1) (p1 + 1) p0) = n0 := Qas n0 p1 p2 ((Int.toNat (p2 - (p1 + 1))) + 1) (p1 + 1) p0 hn
 obtain ⟨R0, eR0⟩ : ∃ R, (Q45 n0 p1 p2 ((Int.toNat (p2 - (p1 + 1))) + 1) (p1 + 1) p0) = R := ⟨_, rfl⟩
 rw [eR0] at hz0_0 ⊢
 exact hz0_0
theorem Qn8 (n0 : Nat) (p0 : List Fld) (p1 : Int) (p2 : Int) (hn : List.length p0 = n0) (hq0 : 0 ≤ p1 ∧ p1 ≤ p2 ∧ p2 ≤ n0 ∧ (n0 : Int) ≤ 20) : Q6 G (Q145 n0 p0 p1 p2) (Qr7 n0 p0 p1 p2) := by
 unfold Qr7 Q27
 have hl0 := Qug n0 p1 p2 ((Int.toNat (p2 - (p1 + 1))) + 1) (p1 + 1) p0 (by omega) (by omega) (by omega) (by omega) hn (by omega)
 have hz0_0 : List.length (Q45 n0 p1 p2 ((Int.toNat (p2 - (p1 + 1))) + 1) (p1 + 1) p0) = n0 := Qas n0 p1 p2 ((Int.toNat (p2 - (p1 + 1))) + 1) (p1 + 1) p0 hn
 obtain ⟨R0, eR0⟩ : ∃ R, (Q45 n0 p1 p2 ((Int.toNat (p2 - (p1 + 1))) + 1) (p1 + 1) p0) = R := ⟨_, rfl⟩
 rw [eR0] at hz0_0 hl0 ⊢
 obtain ⟨z0, zo0, hl0⟩ := hl0
 exact Q8 (fn := Ir.K3s) rfl (vk1 (Fld.Q7 p0 6 rfl)) [hP 1 (w_ok (p1 + 1) (by omega)), hS 0 false (Fld.Q7 R0 6 rfl)] [aV [(0, Fld.rows R0)] hl0] (by kernel_rfl)
def Q3a (n0 : Nat) (p1 : Int) : Nat → (List Fld) → Int → Int → (List Fld) × Int
 | 0, v0_0, v0_1, _v0_2 => (v0_0, v0_1)
 | k0 + 1, v0_0, v0_1, v0_2 =>
  bif (decide (v0_2 ≤ p1)) then
   Q3a n0 p1 k0 (Q27 n0 v0_0 v0_1 v0_2) v0_2 (v0_2 + 20)
  else
   (v0_0, v0_1)
def Qur (n0 : Nat) (p1 : Int) (_v0_0 : List Fld) (v0_1 : Int) (v0_2 : Int) : List PV :=
  [.ms 0 6 0 n0, .int .i64 p1, .fn 134 [] [], .un, .un, .un, .int .i64 20, .int .i64 v0_1, .int .i64 v0_2] ++ nuns 54
def Qmw (_n0 : Nat) (_p1 : Int) (v0_0 : List Fld) (_v0_1 : Int) (_v0_2 : Int) : List Ob :=
  [⟨6, 0, false, (Fld.rows v0_0).flatten⟩]
def Qey (n0 : Nat) (p1 : Int) (v0_0 : List Fld) (v0_1 : Int) (v0_2 : Int) : En := .loop 1 Ir.Ql7 Ir.Q1eh (Qur n0 p1 v0_0 v0_1 v0_2) (Qmw n0 p1 v0_0 v0_1 v0_2)
def Qny (n0 : Nat) (p1 : Int) (q0 : List Fld) (q1 : Int) (z : Nat → PV) (_zo : Nat → List PV) : St :=
  ⟨[.ms 0 6 0 n0, .int .i64 p1, .fn 134 [] [], z 3, z 4, z 5, .int .i64 20, .int .i64 q1] ++ zr z 8 55, [(0, ⟨6, 0, false, (Fld.rows q0).flatten⟩)], 193⟩
theorem Q11j (n0 : Nat) (p1 : Int) (v0_0 : List Fld) (v0_1 : Int) (v0_2 : Int) : VOK (Go.Pv.look (number 0 (Qmw n0 p1 v0_0 v0_1 v0_2))) [(0, Fld.rows v0_0)] := (VOK.cons (show Seen _ _ from Q3q (ob := ⟨6, 0, false, (Fld.rows v0_0).flatten⟩) (Fld.Q7 v0_0 6 rfl)) VOK.nil)
def Qfy (n0 : Nat) (p1 : Int) (e : En) (q : (List Fld) × Int) : Prop := ∃ z zo, Q6 G e (.st (.exit 0) (Qny n0 p1 q.1 q.2 z zo))
theorem Qt2 (n0 : Nat) (p1 : Int) {e e' : En} (h : ∀ r, Q6 G e r → Q6 G e' r) : ∀ q, Qfy n0 p1 e q → Qfy n0 p1 e' q
  | _, ⟨z, zo, hz⟩ => ⟨z, zo, h _ hz⟩
theorem Q17a (n0 : Nat) (p1 : Int) (v0_0 : List Fld) (v0_1 : Int) (v0_2 : Int) (ho0_0 : 0 ≤ v0_1) (_ho0_1 : v0_1 ≤ n0) (ho0_2 : v0_1 + 20 = v0_2) (ho0_3 : p1 = n0) (ho0_4 : (n0 : Int) ≤ 20) (ho0_5 : List.length v0_0 = n0) (h0 : (decide (v0_2 ≤ p1)) = true) {r : Rs} (hr : Q6 G (Qey n0 p1 (Q27 n0 v0_0 v0_1 v0_2) v0_2 (v0_2 + 20)) r) : Q6 G (Qey n0 p1 v0_0 v0_1 v0_2) r := by
 have e0 := of_decide_eq_true h0
 exact Qm (Q11j n0 p1 v0_0 v0_1 v0_2) (y := (Qur n0 p1 (Q27 n0 v0_0 v0_1 v0_2) v0_2 (v0_2 + 20), Qmw n0 p1 (Q27 n0 v0_0 v0_1 v0_2) v0_2 (v0_2 + 20))) [hB 2 h0, hQ (Fld.Q7 (Q27 n0 v0_0 v0_1 v0_2) 6 rfl), hP 9 (w_ok (v0_2 + 20) (by have f0 := (Q1o n0 v0_0 v0_1 v0_2 ho0_5); omega))] [aV [(0, Fld.rows (Q27 n0 v0_0 v0_1 v0_2))] (Qn8 n0 v0_0 v0_1 v0_2 ho0_5 (by omega))] (by kernel_rfl) hr
def Qn9 (_n0 : Nat) (p1 : Int) (_v0_0 : List Fld) (_v0_1 : Int) (v0_2 : Int) : List PV :=
  nuns 8 ++ [.int .i64 v0_2, .un, .un, .int .i64 v0_2, .int .i64 p1, .bool false]
def Qka (_n0 : Nat) (_p1 : Int) (_v0_0 : List Fld) (_v0_1 : Int) (_v0_2 : Int) : List (Nat × List PV) :=
  []
theorem Q156 (n0 : Nat) (p1 : Int) (v0_0 : List Fld) (v0_1 : Int) (v0_2 : Int) (_ho0_0 : 0 ≤ v0_1) (_ho0_1 : v0_1 ≤ n0) (_ho0_2 : v0_1 + 20 = v0_2) (_ho0_3 : p1 = n0) (_ho0_4 : (n0 : Int) ≤ 20) (_ho0_5 : List.length v0_0 = n0) (h0 : (decide (v0_2 ≤ p1)) = false) : Qfy n0 p1 (Qey n0 p1 v0_0 v0_1 v0_2) (v0_0, v0_1) := by
 exact ⟨(envF (Qn9 n0 p1 v0_0 v0_1 v0_2)), (zoF (Qka n0 p1 v0_0 v0_1 v0_2)), Qh (Q11j n0 p1 v0_0 v0_1 v0_2) (x := ((.exit 0), Qny n0 p1 v0_0 v0_1 (envF (Qn9 n0 p1 v0_0 v0_1 v0_2)) (zoF (Qka n0 p1 v0_0 v0_1 v0_2)))) [hB 2 h0] [] (by kernel_rfl)⟩
theorem Qwx (n0 : Nat) (p1 : Int) : ∀ (k0 : Nat) (v0_0 : List Fld) (v0_1 : Int) (v0_2 : Int), 0 ≤ v0_1 → v0_1 ≤ n0 → v0_1 + 20 = v0_2 → p1 = n0 → (n0 : Int) ≤ 20 → List.length v0_0 = n0 → Int.toNat (p1 + 20 - v0_2) < k0 → Qfy n0 p1 (Qey n0 p1 v0_0 v0_1 v0_2) (Q3a n0 p1 k0 v0_0 v0_1 v0_2)
 | 0, v0_0, v0_1, v0_2, _, _, _, _, _, _, hm => absurd hm (Nat.not_lt_zero _)
 | k0 + 1, v0_0, v0_1, v0_2, ho0_0, ho0_1, ho0_2, ho0_3, ho0_4, ho0_5, hm => by
  rw [Q3a]
  cases h0 : (decide (v0_2 ≤ p1)) with
  | true =>
   have e0 := of_decide_eq_true h0
   exact Qt2 n0 p1 (fun r hr => Q17a n0 p1 v0_0 v0_1 v0_2 ho0_0 ho0_1 ho0_2 ho0_3 ho0_4 ho0_5 h0 hr) _ (Qwx n0 p1 k0 (Q27 n0 v0_0 v0_1 v0_2) v0_2 (v0_2 + 20) (by have f0 := (Q1o n0 v0_0 v0_1 v0_2 ho0_5); omega) (by have f0 := (Q1o n0 v0_0 v0_1 v0_2 ho0_5); omega) (by have f0 := (Q1o n0 v0_0 v0_1 v0_2 ho0_5); omega) (by have f0 := (Q1o n0 v0_0 v0_1 v0_2 ho0_5); omega) (by have f0 := (Q1o n0 v0_0 v0_1 v0_2 ho0_5); omega) (Q1o n0 v0_0 v0_1 v0_2 ho0_5) (by have f0 := (Q1o n0 v0_0 v0_1 v0_2 ho0_5); omega))
  | false =>
   exact Q156 n0 p1 v0_0 v0_1 v0_2 ho0_0 ho0_1 ho0_2 ho0_3 ho0_4 ho0_5 h0
theorem Qaf (n0 : Nat) (p1 : Int) : ∀ (k0 : Nat) (v0_0 : List Fld) (v0_1 : Int) (v0_2 : Int), List.length v0_0 = n0 → List.length (Q3a n0 p1 k0 v0_0 v0_1 v0_2).1 = n0
 | 0, v0_0, v0_1, v0_2, ho0_5 => by rw [Q3a]; exact ho0_5
 | k0 + 1, v0_0, v0_1, v0_2, ho0_5 => by
  rw [Q3a]
  cases h0 : (decide (v0_2 ≤ p1)) with
  | true =>
   exact Qaf n0 p1 k0 (Q27 n0 v0_0 v0_1 v0_2) v0_2 (v0_2 + 20) (Q1o n0 v0_0 v0_1 v0_2 ho0_5)
  | false =>
   exact ho0_5
theorem Qvq (n0 : Nat) (p1 : Int) : ∀ (k0 : Nat) (v0_0 : List Fld) (v0_1 : Int) (v0_2 : Int), 0 ≤ v0_1 → v0_1 ≤ n0 → v0_1 + 20 = v0_2 → p1 = n0 → (n0 : Int) ≤ 20 → List.length v0_0 = n0 → Int.toNat (p1 + 20 - v0_2) < k0 → 0 ≤ (Q3a n0 p1 k0 v0_0 v0_1 v0_2).2 ∧ (Q3a n0 p1 k0 v0_0 v0_1 v0_2).2 ≤ n0
 | 0, v0_0, v0_1, v0_2, _, _, _, _, _, _, hm => absurd hm (Nat.not_lt_zero _)
 | k0 + 1, v0_0, v0_1, v0_2, ho0_0, ho0_1, ho0_2, ho0_3, ho0_4, ho0_5, hm => by
  rw [Q3a]
  cases h0 : (decide (v0_2 ≤ p1)) with
  | true =>
   have e0 := of_decide_eq_true h0
   exact Qvq n0 p1 k0 (Q27 n0 v0_0 v0_1 v0_2) v0_2 (v0_2 + 20) (by have f0 := (Q1o n0 v0_0 v0_1 v0_2 ho0_5); omega) (by have f0 := (Q1o n0 v0_0 v0_1 v0_2 ho0_5); omega) (by have f0 := (Q1o n0 v0_0 v0_1 v0_2 ho0_5); omega) (by have f0 := (Q1o n0 v0_0 v0_1 v0_2 ho0_5); omega) (by have f0 := (Q1o n0 v0_0 v0_1 v0_2 ho0_5); omega) (Q1o n0 v0_0 v0_1 v0_2 ho0_5) (by have f0 := (Q1o n0 v0_0 v0_1 v0_2 ho0_5); omega)
  | false =>
   have e0 := of_decide_eq_false h0
   exact (show 0 ≤ v0_1 ∧ v0_1 ≤ n0 from ⟨(by omega), (by omega)⟩)
def Q5d (_n0 : Nat) (_p1 : Int) : Nat → (List Fld) → List Fld
 | 0, v1_0 => v1_0
 | _k1 + 1, v1_0 =>
  v1_0
def Q1bc (n0 : Nat) (p1 : Int) (_v1_0 : List Fld) : List PV :=
  [.ms 0 6 0 n0, .int .i64 p1, .fn 134 [] [], .un, .un, .un, .int .i64 20] ++ nuns 56
def Qvh (_n0 : Nat) (_p1 : Int) (v1_0 : List Fld) : List Ob :=
  [⟨6, 0, false, (Fld.rows v1_0).flatten⟩]
def Q10h (n0 : Nat) (p1 : Int) (v1_0 : List Fld) : En := .loop 1 Ir.Qif Ir.Q1el (Q1bc n0 p1 v1_0) (Qvh n0 p1 v1_0)
def Qnm (_n0 : Nat) (_p1 : Int) (q0 : List Fld) (z : Nat → PV) (_zo : Nat → List PV) : St :=
  ⟨zr z 0 63, [(0, ⟨6, 0, false, (Fld.rows q0).flatten⟩)], 193⟩
theorem Q1d1 (n0 : Nat) (p1 : Int) (v1_0 : List Fld) : VOK (Go.Pv.look (number 0 (Qvh n0 p1 v1_0))) [(0, Fld.rows v1_0)] := (VOK.cons (show Seen _ _ from Q3q (ob := ⟨6, 0, false, (Fld.rows v1_0).flatten⟩) (Fld.Q7 v1_0 6 rfl)) VOK.nil)
def Q10y (n0 : Nat) (p1 : Int) (e : En) (q : List Fld) : Prop := ∃ z zo, Q6 G e (.st (.exit 2) (Qnm n0 p1 q z zo))
def Qpv (n0 : Nat) (p1 : Int) (_v1_0 : List Fld) : List PV :=
  [.ms 0 6 0 n0, .int .i64 p1, .fn 134 [] [], .un, .un, .un, .int .i64 20] ++ nuns 21 ++ [.int .i64 20, .int .i64 p1, .bool false]
def Qhf (_n0 : Nat) (_p1 : Int) (_v1_0 : List Fld) : List (Nat × List PV) :=
  []
theorem Q147 (n0 : Nat) (p1 : Int) (v1_0 : List Fld) (ho1_0 : p1 = n0) (ho1_1 : (n0 : Int) ≤ 20) (ho1_2 : List.length v1_0 = n0) : Q10y n0 p1 (Q10h n0 p1 v1_0) v1_0 := by
 exact ⟨(envF (Qpv n0 p1 v1_0)), (zoF (Qhf n0 p1 v1_0)), Qh (Q1d1 n0 p1 v1_0) (x := ((.exit 2), Qnm n0 p1 v1_0 (envF (Qpv n0 p1 v1_0)) (zoF (Qhf n0 p1 v1_0)))) [hP 2 (dec (decide (20 < p1)) false (decide_eq_false (by omega)))] [] (by kernel_rfl)⟩
theorem Q19l (n0 : Nat) (p1 : Int) : ∀ (k1 : Nat) (v1_0 : List Fld), p1 = n0 → (n0 : Int) ≤ 20 → List.length v1_0 = n0 → 0 < k1 → Q10y n0 p1 (Q10h n0 p1 v1_0) (Q5d n0 p1 k1 v1_0)
 | 0, v1_0, _, _, _, hm => absurd hm (Nat.not_lt_zero _)
 | k1 + 1, v1_0, ho1_0, ho1_1, ho1_2, hm => by
  rw [Q5d]
  exact Q147 n0 p1 v1_0 ho1_0 ho1_1 ho1_2
theorem Qi2 (n0 : Nat) (p1 : Int) : ∀ (k1 : Nat) (v1_0 : List Fld), List.length v1_0 = n0 → List.length (Q5d n0 p1 k1 v1_0) = n0
 | 0, v1_0, ho1_2 => by rw [Q5d]; exact ho1_2
 | k1 + 1, v1_0, ho1_2 => by
  rw [Q5d]
  exact ho1_2
def Q58 (n0 : Nat) (p0 : List Fld) (p1 : Int) : List Fld :=
 (Q5d n0 p1 (0 + 1) (Q27 n0 (Q3a n0 p1 ((Int.toNat (p1 + 20 - 20)) + 1) p0 0 20).1 (Q3a n0 p1 ((Int.toNat (p1 + 20 - 20)) + 1) p0 0 20).2 p1))
def Q14e (n0 : Nat) (p0 : List Fld) (p1 : Int) : En := .call 151 [.ms 0 6 0 n0, .int .i64 p1, .fn 134 [] []] [⟨6, 0, false, (Fld.rows p0).flatten⟩]
def Qq4 (n0 : Nat) (p0 : List Fld) (p1 : Int) : Rs := .ret (.tup []) [⟨6, 0, false, (Fld.rows (Q58 n0 p0 p1)).flatten⟩]
theorem Qt0 (n0 : Nat) (p0 : List Fld) (p1 : Int) (hn : List.length p0 = n0) : List.length (Q58 n0 p0 p1) = n0 := by
 unfold Q58
 have hz0_0 : List.length (Q3a n0 p1 ((Int.toNat (p1 + 20 - 20)) + 1) p0 0 20).1 = n0 := Qaf n0 p1 ((Int.toNat (p1 + 20 - 20)) + 1) p0 0 20 hn
 obtain ⟨R1, eR1⟩ : ∃ R, (Q3a n0 p1 ((Int.toNat (p1 + 20 - 20)) + 1) p0 0 20) = R := ⟨_, rfl⟩
 rw [eR1] at hz0_0 ⊢
 have hz1_0 : List.length (Q5d n0 p1 (0 + 1) (Q27 n0 R1.1 R1.2 p1)) = n0 := Qi2 n0 p1 (0 + 1) (Q27 n0 R1.1 R1.2 p1) (Q1o n0 R1.1 R1.2 p1 hz0_0)
 obtain ⟨R2, eR2⟩ : ∃ R, (Q5d n0 p1 (0 + 1) (Q27 n0 R1.1 R1.2 p1)) = R := ⟨_, rfl⟩
 rw [eR2] at hz1_0 ⊢
 exact hz1_0
theorem Q17j (n0 : Nat) (p0 : List Fld) (p1 : Int) (hn : List.length p0 = n0) (hq0 : 0 ≤ p1 ∧ p1 = n0 ∧ (n0 : Int) ≤ 20) : Q6 G (Q14e n0 p0 p1) (Qq4 n0 p0 p1) := by
 unfold Qq4 Q58
 have hl0 := Qwx n0 p1 ((Int.toNat (p1 + 20 - 20)) + 1) p0 0 20 (by omega) (by omega) (by omega) (by omega) (by omega) hn (by omega)
 have hz0_0 : List.length (Q3a n0 p1 ((Int.toNat (p1 + 20 - 20)) + 1) p0 0 20).1 = n0 := Qaf n0 p1 ((Int.toNat (p1 + 20 - 20)) + 1) p0 0 20 hn
 have hy0 : 0 ≤ (Q3a n0 p1 ((Int.toNat (p1 + 20 - 20)) + 1) p0 0 20).2 ∧ (Q3a n0 p1 ((Int.toNat (p1 + 20 - 20)) + 1) p0 0 20).2 ≤ n0 := Qvq n0 p1 ((Int.toNat (p1 + 20 - 20)) + 1) p0 0 20 (by omega) (by omega) (by omega) (by omega) (by omega) hn (by omega)
 obtain ⟨R1, eR1⟩ : ∃ R, (Q3a n0 p1 ((Int.toNat (p1 + 20 - 20)) + 1) p0 0 20) = R := ⟨_, rfl⟩
 rw [eR1] at hz0_0 hy0 hl0 ⊢
 obtain ⟨z0, zo0, hl0⟩ := hl0
 have hl1 := Q19l n0 p1 (0 + 1) (Q27 n0 R1.1 R1.2 p1) (by have f0 := (Q1o n0 R1.1 R1.2 p1 hz0_0); have g0 := hy0; omega) (by have f0 := (Q1o n0 R1.1 R1.2 p1 hz0_0); have g0 := hy0; omega) (Q1o n0 R1.1 R1.2 p1 hz0_0) (by omega)
 have hz1_0 : List.length (Q5d n0 p1 (0 + 1) (Q27 n0 R1.1 R1.2 p1)) = n0 := Qi2 n0 p1 (0 + 1) (Q27 n0 R1.1 R1.2 p1) (Q1o n0 R1.1 R1.2 p1 hz0_0)
 obtain ⟨R2, eR2⟩ : ∃ R, (Q5d n0 p1 (0 + 1) (Q27 n0 R1.1 R1.2 p1)) = R := ⟨_, rfl⟩
 rw [eR2] at hz1_0 hl1 ⊢
 obtain ⟨z1, zo1, hl1⟩ := hl1
 exact Q8 (fn := Ir.K3t) rfl (vk1 (Fld.Q7 p0 6 rfl)) [hS 0 false (Fld.Q7 R1.1 6 rfl), hQ (Fld.Q7 (Q27 n0 R1.1 R1.2 p1) 6 rfl), hS 0 false (Fld.Q7 R2 6 rfl)] [aV [(0, Fld.rows R1.1)] hl0, aV [(0, Fld.rows (Q27 n0 R1.1 R1.2 p1))] (Qn8 n0 R1.1 R1.2 p1 hz0_0 (by have g0 := hy0; omega)), aV [(0, Fld.rows R2)] hl1] (by kernel_rfl)
def Qr (n0 : Nat) (p0 : List Fld) : List Fld :=
 (Q58 n0 p0 (n0 : Int))
def Q178 (n0 : Nat) (p0 : List Fld) : En := .call 133 [.ms 0 6 0 n0, .fn 134 [] []] [⟨6, 0, false, (Fld.rows p0).flatten⟩]
def Qpw (n0 : Nat) (p0 : List Fld) : Rs := .ret (.tup []) [⟨6, 0, false, (Fld.rows (Qr n0 p0)).flatten⟩]
theorem Q2d (n0 : Nat) (p0 : List Fld) (hn : List.length p0 = n0) : List.length (Qr n0 p0) = n0 := by
 unfold Qr
 exact (Qt0 n0 p0 (n0 : Int) hn)
theorem Q15b (n0 : Nat) (p0 : List Fld) (hn : List.length p0 = n0) (hq0 : (n0 : Int) ≤ 20) : Q6 G (Q178 n0 p0) (Qpw n0 p0) := by
 unfold Qpw Qr
 exact Q8 (fn := Ir.K3r) rfl (vk1 (Fld.Q7 p0 6 rfl)) [hQ (Fld.Q7 (Q58 n0 p0 (n0 : Int)) 6 rfl)] [aV [(0, Fld.rows (Q58 n0 p0 (n0 : Int)))] (Q17j n0 p0 (n0 : Int) hn (by omega))] (by kernel_rfl)
def Q3d (p0 : List Fld) : List Fld → Nat → (List Fld) → List Fld
 | [], _i0, v0_1 =>
  v0_1
 | x0 :: r0, i0, v0_1 =>
  bif (((i0 + 1 : Nat) : Int) == ((List.length p0) : Int)) then
   Q3d p0 r0 (i0 + 1) (v0_1 ++ [x0])
  else
   bif (sEq (List.getD (Qr (List.length p0) p0) (Int.toNat ((i0 + 1 : Nat) : Int)) zF).name x0.name) then
    Q3d p0 r0 (i0 + 1) v0_1
   else
    Q3d p0 r0 (i0 + 1) (v0_1 ++ [x0])
def Qcl (p0 : List Fld) (i0 : Nat) (_v0_1 : List Fld) : List PV :=
  [.un, .un, .bx 0 0, .ms 1 6 0 (List.length p0), .bx 2 0] ++ nuns 7 ++ [.ms 1 6 0 (List.length p0), .int .i64 ((List.length p0) : Int), .int .i64 (i0 : Int)] ++ nuns 29
def Q92 (p0 : List Fld) (_i0 : Nat) (v0_1 : List Fld) : List Ob :=
  [⟨5, 0, true, [.int .i64 0, .int .i64 0, .str eB, .ms 3 5 0 0, .ms 4 6 0 0]⟩, ⟨6, 0, false, (Fld.rows (Qr (List.length p0) p0)).flatten⟩, ⟨5, 0, true, [.int .i64 5, .int .i64 0, .str eB, .ms 5 5 0 0, .ms 6 6 0 (List.length v0_1)]⟩, ⟨5, 0, true, []⟩, ⟨6, 0, true, []⟩, ⟨5, 0, true, []⟩, ⟨6, 0, true, (Fld.rows v0_1).flatten⟩]
def Q6z (p0 : List Fld) (i0 : Nat) (v0_1 : List Fld) : En := .loop 0 Ir.Qkf Ir.Q1et (Qcl p0 i0 v0_1) (Q92 p0 i0 v0_1)
def Qq8 (p0 : List Fld) (q0 : List Fld) (z : Nat → PV) (_zo : Nat → List PV) : St :=
  ⟨[z 0, z 1, .bx 0 0, z 3, .bx 2 0] ++ zr z 5 39, [(0, ⟨5, 0, true, [.int .i64 0, .int .i64 0, .str eB, .ms 3 5 0 0, .ms 4 6 0 0]⟩), (1, ⟨6, 0, false, (Fld.rows (Qr (List.length p0) p0)).flatten⟩), (2, ⟨5, 0, true, [.int .i64 5, .int .i64 0, .str eB, .ms 5 5 0 0, .ms 6 6 0 (List.length q0)]⟩), (3, ⟨5, 0, true, []⟩), (4, ⟨6, 0, true, []⟩), (5, ⟨5, 0, true, []⟩), (6, ⟨6, 0, true, (Fld.rows q0).flatten⟩)], 71⟩
theorem Qh8 (p0 : List Fld) (i0 : Nat) (v0_1 : List Fld) : VOK (Go.Pv.look (number 0 (Q92 p0 i0 v0_1))) [(1, Fld.rows (Qr (List.length p0) p0)), (6, Fld.rows v0_1)] := (VOK.cons (show Seen _ _ from Q3q (ob := ⟨6, 0, false, (Fld.rows (Qr (List.length p0) p0)).flatten⟩) (Fld.Q7 (Qr (List.length p0) p0) 6 rfl)) (VOK.cons (show Seen _ _ from Q3q (ob := ⟨6, 0, true, (Fld.rows v0_1).flatten⟩) (Fld.Q7 v0_1 6 rfl)) VOK.nil))
def Qfa (p0 : List Fld) (e : En) (q : List Fld) : Prop := ∃ z zo, Q6 G e (.st (.exit 0) (Qq8 p0 q z zo))
theorem Q80 (p0 : List Fld) {e e' : En} (h : ∀ r, Q6 G e r → Q6 G e' r) : ∀ q, Qfa p0 e q → Qfa p0 e' q
  | _, ⟨z, zo, hz⟩ => ⟨z, zo, h _ hz⟩
def Q9m (p0 : List Fld) : Prop := (List.length (Qr (List.length p0) p0) ≤ 137438953472) ∧ True
def Qpc (p0 : List Fld) (i0 : Nat) (_v0_1 : List Fld) : List PV :=
  [.un, .un, .un, .ms 1 6 0 (List.length p0)] ++ nuns 8 ++ [.ms 1 6 0 (List.length p0), .int .i64 ((List.length p0) : Int), .int .i64 (i0 : Int), .bool false]
def Ql0 (_p0 : List Fld) (_i0 : Nat) (_v0_1 : List Fld) : List (Nat × List PV) :=
  []
theorem Q16z (p0 : List Fld) (_H : Q9m p0) (i0 : Nat) (v0_1 : List Fld) (_ho0_0 : List.length v0_1 ≤ i0) (hc0 : (decide ((i0 : Int) < ((List.length p0) : Int))) = false) : Qfa p0 (Q6z p0 i0 v0_1) v0_1 := by
 exact ⟨(envF (Qpc p0 i0 v0_1)), (zoF (Ql0 p0 i0 v0_1)), Qh (Qh8 p0 i0 v0_1) (x := ((.exit 0), Qq8 p0 v0_1 (envF (Qpc p0 i0 v0_1)) (zoF (Ql0 p0 i0 v0_1)))) [hB 0 hc0] [] (by kernel_rfl)⟩
theorem Q15j (p0 : List Fld) (H : Q9m p0) (x0 : Fld) (i0 : Nat) (v0_1 : List Fld) (hx0 : (Qr (List.length p0) p0)[i0]? = some x0) (hi0 : i0 < List.length (Qr (List.length p0) p0)) (ho0_0 : List.length v0_1 ≤ i0) (hc0 : (decide ((i0 : Int) < ((List.length p0) : Int))) = true) (h0 : (((i0 + 1 : Nat) : Int) == ((List.length p0) : Int)) = true) {r : Rs} (hr : Q6 G (Q6z p0 (i0 + 1) (v0_1 ++ [x0])) r) : Q6 G (Q6z p0 i0 v0_1) r := by
 have hB0 := H.1; have e0 := eq_of_beq h0
 exact Qm (Qh8 p0 i0 v0_1) (y := (Qcl p0 (i0 + 1) (v0_1 ++ [x0]), Q92 p0 (i0 + 1) (v0_1 ++ [x0]))) [hB 0 hc0, hP 1 (Q3l 1 6 (List.length p0) (i0 : Int) i0 (by omega) (by have f1 := (Q2d (List.length p0) p0 rfl); omega) (by have f1 := (Q2d (List.length p0) p0 rfl); omega)), hP 0 (Qbq 1 6 0 false ((Fld.rows (Qr (List.length p0) p0)).flatten) (Fld.rows (Qr (List.length p0) p0)) 6 true i0 0 (i0 * 6) (Fld.cells x0) (.agg [.str x0.name, .int .i64 x0.v.kind, .int .i64 x0.v.n, .str x0.v.s, .sl (Val.rows x0.v.list), .sl (Fld.rows x0.v.fields)]) rfl rfl (Fld.Qb hx0) (Fld.Qd (Qr (List.length p0) p0)) (by decide) rfl), hP 4 (Q29 i0 (by omega)), hB 2 h0, hV 15 [(1735, Fld.rows (v0_1 ++ [x0]))] (Q5e 6 1671 1735 6 96 0 0 true (Fld.rows v0_1) (Fld.rows (v0_1 ++ [x0])) (Fld.cells x0) (List.length v0_1) (List.length (v0_1 ++ [x0])) rfl (Fld.Q0 v0_1).symm (Fld.Q0 (v0_1 ++ [x0])).symm (Fld.Q15 v0_1 x0) (Fld.Qd v0_1) rfl (by omega)), hS 0 true (Fld.Q7 (v0_1 ++ [x0]) 6 rfl), hP 2 (Q29 i0 (by omega))] [] (by kernel_rfl) hr
theorem Q16c (p0 : List Fld) (H : Q9m p0) (x0 : Fld) (i0 : Nat) (v0_1 : List Fld) (hx0 : (Qr (List.length p0) p0)[i0]? = some x0) (hi0 : i0 < List.length (Qr (List.length p0) p0)) (_ho0_0 : List.length v0_1 ≤ i0) (hc0 : (decide ((i0 : Int) < ((List.length p0) : Int))) = true) (h0 : (((i0 + 1 : Nat) : Int) == ((List.length p0) : Int)) = false) (h1 : (sEq (List.getD (Qr (List.length p0) p0) (Int.toNat ((i0 + 1 : Nat) : Int)) zF).name x0.name) = true) {r : Rs} (hr : Q6 G (Q6z p0 (i0 + 1) v0_1) r) : Q6 G (Q6z p0 i0 v0_1) r := by
 have hB0 := H.1; have e0 := beq_eq_false_iff_ne.1 h0
 exact Qm (Qh8 p0 i0 v0_1) (y := (Qcl p0 (i0 + 1) v0_1, Q92 p0 (i0 + 1) v0_1)) [hB 0 hc0, hP 1 (Q3l 1 6 (List.length p0) (i0 : Int) i0 (by omega) (by have f1 := (Q2d (List.length p0) p0 rfl); omega) (by have f1 := (Q2d (List.length p0) p0 rfl); omega)), hP 0 (Qbq 1 6 0 false ((Fld.rows (Qr (List.length p0) p0)).flatten) (Fld.rows (Qr (List.length p0) p0)) 6 true i0 0 (i0 * 6) (Fld.cells x0) (.agg [.str x0.name, .int .i64 x0.v.kind, .int .i64 x0.v.n, .str x0.v.s, .sl (Val.rows x0.v.list), .sl (Fld.rows x0.v.fields)]) rfl rfl (Fld.Qb hx0) (Fld.Qd (Qr (List.length p0) p0)) (by decide) rfl), hP 4 (Q29 i0 (by omega)), hB 2 h0, hP 3 (Q29 i0 (by omega)), hP 0 (Q3l 1 6 (List.length p0) ((i0 + 1 : Nat) : Int) (Int.toNat ((i0 + 1 : Nat) : Int)) rfl (by have f1 := (Q2d (List.length p0) p0 rfl); omega) (by have f1 := (Q2d (List.length p0) p0 rfl); omega)), hP 1 (Qbq 1 6 0 false ((Fld.rows (Qr (List.length p0) p0)).flatten) (Fld.rows (Qr (List.length p0) p0)) 1 false (Int.toNat ((i0 + 1 : Nat) : Int)) 0 ((Int.toNat ((i0 + 1 : Nat) : Int)) * 6) (Fld.cells (List.getD (Qr (List.length p0) p0) (Int.toNat ((i0 + 1 : Nat) : Int)) zF)) (.str (List.getD (Qr (List.length p0) p0) (Int.toNat ((i0 + 1 : Nat) : Int)) zF).name) rfl rfl (Fld.Qb (Q21 (Qr (List.length p0) p0) (Int.toNat ((i0 + 1 : Nat) : Int)) zF (by have f1 := (Q2d (List.length p0) p0 rfl); omega))) (Fld.Qd (Qr (List.length p0) p0)) (by decide) rfl), hP 2 (dec (!(sEq (List.getD (Qr (List.length p0) p0) (Int.toNat ((i0 + 1 : Nat) : Int)) zF).name x0.name)) false (by rw [h1]; rfl)), hP 1 (Q29 i0 (by omega))] [] (by kernel_rfl) hr
theorem Q16l (p0 : List Fld) (H : Q9m p0) (x0 : Fld) (i0 : Nat) (v0_1 : List Fld) (hx0 : (Qr (List.length p0) p0)[i0]? = some x0) (hi0 : i0 < List.length (Qr (List.length p0) p0)) (ho0_0 : List.length v0_1 ≤ i0) (hc0 : (decide ((i0 : Int) < ((List.length p0) : Int))) = true) (h0 : (((i0 + 1 : Nat) : Int) == ((List.length p0) : Int)) = false) (h1 : (sEq (List.getD (Qr (List.length p0) p0) (Int.toNat ((i0 + 1 : Nat) : Int)) zF).name x0.name) = false) {r : Rs} (hr : Q6 G (Q6z p0 (i0 + 1) (v0_1 ++ [x0])) r) : Q6 G (Q6z p0 i0 v0_1) r := by
 have hB0 := H.1; have e0 := beq_eq_false_iff_ne.1 h0
 exact Qm (Qh8 p0 i0 v0_1) (y := (Qcl p0 (i0 + 1) (v0_1 ++ [x0]), Q92 p0 (i0 + 1) (v0_1 ++ [x0]))) [hB 0 hc0, hP 1 (Q3l 1 6 (List.length p0) (i0 : Int) i0 (by omega) (by have f1 := (Q2d (List.length p0) p0 rfl); omega) (by have f1 := (Q2d (List.length p0) p0 rfl); omega)), hP 0 (Qbq 1 6 0 false ((Fld.rows (Qr (List.length p0) p0)).flatten) (Fld.rows (Qr (List.length p0) p0)) 6 true i0 0 (i0 * 6) (Fld.cells x0) (.agg [.str x0.name, .int .i64 x0.v.kind, .int .i64 x0.v.n, .str x0.v.s, .sl (Val.rows x0.v.list), .sl (Fld.rows x0.v.fields)]) rfl rfl (Fld.Qb hx0) (Fld.Qd (Qr (List.length p0) p0)) (by decide) rfl), hP 4 (Q29 i0 (by omega)), hB 2 h0, hP 3 (Q29 i0 (by omega)), hP 0 (Q3l 1 6 (List.length p0) ((i0 + 1 : Nat) : Int) (Int.toNat ((i0 + 1 : Nat) : Int)) rfl (by have f1 := (Q2d (List.length p0) p0 rfl); omega) (by have f1 := (Q2d (List.length p0) p0 rfl); omega)), hP 1 (Qbq 1 6 0 false ((Fld.rows (Qr (List.length p0) p0)).flatten) (Fld.rows (Qr (List.length p0) p0)) 1 false (Int.toNat ((i0 + 1 : Nat) : Int)) 0 ((Int.toNat ((i0 + 1 : Nat) : Int)) * 6) (Fld.cells (List.getD (Qr (List.length p0) p0) (Int.toNat ((i0 + 1 : Nat) : Int)) zF)) (.str (List.getD (Qr (List.length p0) p0) (Int.toNat ((i0 + 1 : Nat) : Int)) zF).name) rfl rfl (Fld.Qb (Q21 (Qr (List.length p0) p0) (Int.toNat ((i0 + 1 : Nat) : Int)) zF (by have f1 := (Q2d (List.length p0) p0 rfl); omega))) (Fld.Qd (Qr (List.length p0) p0)) (by decide) rfl), hP 2 (dec (!(sEq (List.getD (Qr (List.length p0) p0) (Int.toNat ((i0 + 1 : Nat) : Int)) zF).name x0.name)) true (by rw [h1]; rfl)), hV 5 [(1735, Fld.rows (v0_1 ++ [x0]))] (Q5e 6 1671 1735 6 96 0 0 true (Fld.rows v0_1) (Fld.rows (v0_1 ++ [x0])) (Fld.cells x0) (List.length v0_1) (List.length (v0_1 ++ [x0])) rfl (Fld.Q0 v0_1).symm (Fld.Q0 (v0_1 ++ [x0])).symm (Fld.Q15 v0_1 x0) (Fld.Qd v0_1) rfl (by omega)), hS 0 true (Fld.Q7 (v0_1 ++ [x0]) 6 rfl), hP 2 (Q29 i0 (by omega))] [] (by kernel_rfl) hr
theorem Qbx (p0 : List Fld) (H : Q9m p0) : ∀ (r0 : List Fld) (i0 : Nat) (v0_1 : List Fld), List.drop i0 (Qr (List.length p0) p0) = r0 → List.length v0_1 ≤ i0 → Qfa p0 (Q6z p0 i0 v0_1) (Q3d p0 r0 i0 v0_1)
 | [], i0, v0_1, hd, ho0_0 => by
  have hc0 : (decide ((i0 : Int) < ((List.length p0) : Int))) = false := by have hL := (Q2d (List.length p0) p0 rfl); have := Q1g hd; simp; omega
  rw [Q3d]
  exact Q16z p0 H i0 v0_1 ho0_0 hc0
 | x0 :: r0, i0, v0_1, hd, ho0_0 => by
  obtain ⟨hx0, hi0, hd'⟩ := Q12 hd
  have hc0 : (decide ((i0 : Int) < ((List.length p0) : Int))) = true := by have hL := (Q2d (List.length p0) p0 rfl); simp; omega
  rw [Q3d]
  cases h0 : (((i0 + 1 : Nat) : Int) == ((List.length p0) : Int)) with
  | true =>
   have e0 := eq_of_beq h0
   exact Q80 p0 (fun r hr => Q15j p0 H x0 i0 v0_1 hx0 hi0 ho0_0 hc0 h0 hr) _ (Qbx p0 H r0 (i0 + 1) (v0_1 ++ [x0]) hd' (by first | omega | (simp; omega)))
  | false =>
   have e0 := beq_eq_false_iff_ne.1 h0
   cases h1 : (sEq (List.getD (Qr (List.length p0) p0) (Int.toNat ((i0 + 1 : Nat) : Int)) zF).name x0.name) with
   | true =>
    exact Q80 p0 (fun r hr => Q16c p0 H x0 i0 v0_1 hx0 hi0 ho0_0 hc0 h0 h1 hr) _ (Qbx p0 H r0 (i0 + 1) v0_1 hd' (by first | omega | (simp; omega)))
   | false =>
    exact Q80 p0 (fun r hr => Q16l p0 H x0 i0 v0_1 hx0 hi0 ho0_0 hc0 h0 h1 hr) _ (Qbx p0 H r0 (i0 + 1) (v0_1 ++ [x0]) hd' (by first | omega | (simp; omega)))
def Qa6 (p0 : List Fld) : Val :=
 (Val.mk 5 0 eB [] (Q3d p0 (Qr (List.length p0) p0) 0 []))
def Qek (p0 : List Fld) : En := .call 61 [.sl (Fld.rows p0)] []
def Q1ik (p0 : List Fld) : Rs := .ret (.agg (Val.cells (Qa6 p0))) []
def Qcv (p0 : List Fld) : Prop := (List.length p0 * 96 ≤ 140737488355328) ∧ (((List.length p0) : Int) ≤ 20) ∧ (Q9m p0) ∧ (Qn0 (Val.mk 5 0 eB [] (Q3d p0 (Qr (List.length p0) p0) 0 []))) ∧ True
theorem Qkj (p0 : List Fld) (H : Qcv p0) : Q6 G (Qek p0) (Q1ik p0) := by
 unfold Q1ik Qa6
 have hl0 := Qbx p0 (H.2.2.1) (Qr (List.length p0) p0) 0 [] (by simp) (by simp)
 obtain ⟨z0, zo0, hl0⟩ := hl0
 exact Q8 (fn := Ir.K3z) rfl VOK.nil [hQ (Fld.Q7 p0 6 rfl), hQ (Fld.Q7 (Qr (List.length p0) p0) 6 rfl), hS 0 false (Fld.Q7 (Qr (List.length p0) p0) 6 rfl), hS 0 true (Fld.Q7 (Q3d p0 (Qr (List.length p0) p0) 0 []) 6 rfl), hQ (Fld.Q0 (Q3d p0 (Qr (List.length p0) p0) 0 [])).symm] [aV [(0, Fld.rows p0)] (Q7y (G := G) (f := 132) (sz := 6) (bytes := 96) rfl (Fld.Q0 p0) (Fld.Q7 p0 6 rfl) H.1), aV [(0, Fld.rows (Qr (List.length p0) p0))] (Q15b (List.length p0) p0 rfl (H.2.1)), aV [(1, Fld.rows (Qr (List.length p0) p0)), (6, Fld.rows (Q3d p0 (Qr (List.length p0) p0) 0 []))] hl0, aN (Q1i3 (Val.mk 5 0 eB [] (Q3d p0 (Qr (List.length p0) p0) 0 [])) H.2.2.2.1)] (by kernel_rfl)
end Go.Proofs.YtiflaadeikaghaaGreat
end

section
/- The library's stable sort as plain functions on lists, and what it answers: the stably sorted list. Program-free. -/
namespace Go.Pv.Srt
section
variable {α : Type} (z : α) (c : α → α → Int)
def gt (d : List α) (i : Int) : α := d.getD i.toNat z
def sw (d : List α) (i j : Int) : List α := (d.set i.toNat (gt z d j)).set j.toNat (gt z d i)
def ins1 (a : Int) : Nat → List α → Int → List α
 | 0, v, _ => v
 | k + 1, v, j => bif decide (a < j) then (bif decide (c (gt z v j) (gt z v (j - 1)) < 0) then ins1 a k (sw z v j (j - 1)) (j - 1) else v) else v
def ins0 (a b : Int) : Nat → Int → List α → List α
 | 0, _, v => v
 | k + 1, i, v => bif decide (i < b) then ins0 a b k (i + 1) (ins1 z c a (i.toNat + 1) v i) else v
def ins (d : List α) (a b : Int) : List α := ins0 z c a b ((b - (a + 1)).toNat + 1) (a + 1) d
theorem Q1dn {d A C : List α} {x : α} {i : Int} (hd : d = A ++ x :: C) (hi : i = (A.length : Int)) : gt z d i = x := by
 subst hd hi
 simp [gt]
theorem Q1fb {A C : List α} {x y : α} {i : Int} (hi : i = (A.length : Int)) : (A ++ x :: C).set i.toNat y = A ++ y :: C := by
 subst hi
 simp
theorem Q1fq {A M C : List α} {x y : α} {i j : Int} (hi : i = (A.length : Int)) (hj : j = (A.length : Int) + 1 + (M.length : Int)) : sw z (A ++ x :: (M ++ y :: C)) j i = A ++ y :: (M ++ x :: C) := by
 have e1 : gt z (A ++ x :: (M ++ y :: C)) i = x := Q1dn z rfl hi
 have e2 : gt z (A ++ x :: (M ++ y :: C)) j = y := Q1dn z (A := A ++ x :: M) (C := C) (by simp) (by simp; omega)
 unfold sw
 rw [e1, e2]
 have e3 : A ++ x :: (M ++ y :: C) = (A ++ x :: M) ++ y :: C := by simp
 rw [e3, Q1fb (A := A ++ x :: M) (by simp; omega)]
 have e4 : (A ++ x :: M) ++ x :: C = A ++ x :: (M ++ x :: C) := by simp
 rw [e4, Q1fb hi]
def insR (x : α) : List α → List α
 | [] => [x]
 | s :: t => bif decide (c x s < 0) then s :: insR x t else x :: s :: t
def Qda (l : List α) : List α := (l.foldl (fun r x => insR c x r) []).reverse
theorem Qvk (a : Int) (A : List α) (x : α) (ha : a = (A.length : Int)) : ∀ (R C : List α) (k : Nat) (j : Int), j = (A.length : Int) + (R.length : Int) → R.length < k → ins1 z c a k (A ++ (R.reverse ++ x :: C)) j = A ++ ((insR c x R).reverse ++ C)
 | _, _, 0, _, _, h => absurd h (Nat.not_lt_zero _)
 | [], C, k + 1, j, hj, _ => by
  rw [ins1, show decide (a < j) = false by simp at hj ⊢; omega]
  simp [insR]
 | s :: t, C, k + 1, j, hj, hk => by
  simp only [List.length_cons] at hj hk
  have e0 : A ++ ((s :: t).reverse ++ x :: C) = (A ++ t.reverse) ++ s :: ([] ++ x :: C) := by simp
  rw [ins1, show decide (a < j) = true by simp; omega, cond_true, e0]
  have e1 : gt z ((A ++ t.reverse) ++ s :: ([] ++ x :: C)) j = x := Q1dn z (A := A ++ t.reverse ++ [s]) (C := C) (by simp) (by simp; omega)
  have e2 : gt z ((A ++ t.reverse) ++ s :: ([] ++ x :: C)) (j - 1) = s := Q1dn z (A := A ++ t.reverse) rfl (by simp; omega)
  rw [e1, e2, insR]
  cases decide (c x s < 0) with
  | true =>
   rw [cond_true, cond_true, Q1fq z (by simp; omega) (by simp; omega)]
   have e3 : (A ++ t.reverse) ++ x :: ([] ++ s :: C) = A ++ (t.reverse ++ x :: (s :: C)) := by simp
   rw [e3, Qvk a A x ha t (s :: C) k (j - 1) (by omega) (by omega)]
   simp
  | false => simp
theorem Quv (a b : Int) (A : List α) (ha : a = (A.length : Int)) : ∀ (M R C : List α) (k : Nat) (i : Int), i = (A.length : Int) + (R.length : Int) → b = i + (M.length : Int) → M.length < k →
  ins0 z c a b k i (A ++ (R.reverse ++ (M ++ C))) = A ++ ((M.foldl (fun r x => insR c x r) R).reverse ++ C)
 | _, _, _, 0, _, _, _, h => absurd h (Nat.not_lt_zero _)
 | [], R, C, k + 1, i, hi, hb, _ => by
  rw [ins0, show decide (i < b) = false by simp at hb ⊢; omega]
  simp
 | x :: M, R, C, k + 1, i, hi, hb, hk => by
  simp only [List.length_cons] at hb hk
  rw [ins0, show decide (i < b) = true by simp; omega, cond_true, List.cons_append, Qvk z c a A x ha R (M ++ C) _ i hi (by omega)]
  have hl : (insR c x R).length = R.length + 1 := by
   clear hi hb hk
   induction R with
   | nil => rfl
   | cons s t ih => rw [insR]; cases decide (c x s < 0) <;> simp [ih]
  rw [Quv a b A ha M (insR c x R) C k (i + 1) (by omega) (by omega) (by omega)]
  rfl
theorem Qrz {d A M C : List α} {a b : Int} (hd : d = A ++ (M ++ C)) (ha : a = (A.length : Int)) (hb : b = a + (M.length : Int)) : ins z c d a b = A ++ (Qda c M ++ C) := by
 subst hd
 unfold ins Qda
 cases M with
 | nil =>
  simp only [List.length_nil, Int.ofNat_zero] at hb
  rw [ins0, show decide (a + 1 < b) = false by simp; omega]
  rfl
 | cons x M =>
  simp only [List.length_cons] at hb
  have e : A ++ (x :: M ++ C) = A ++ ([x].reverse ++ (M ++ C)) := by simp
  rw [e, Quv z c a b A ha M [x] C _ _ (by simp; omega) (by omega) (by omega)]
  rfl
end
end Go.Pv.Srt
end

section
/- The library's stable sort: its merging, and that it answers the stably sorted list. Program-free. -/
namespace Go.Pv.Srt
section
variable {α : Type} (z : α) (c : α → α → Int)
structure Tot : Prop where
  asym : ∀ x y, c x y < 0 → ¬ c y x < 0
  tr : ∀ x y w, ¬ c y x < 0 → ¬ c w y < 0 → ¬ c w x < 0
def le (x y : α) : Prop := ¬ c y x < 0
def Up (l : List α) : Prop := l.Pairwise (le c)
def eqv (x y : α) : Bool := decide (¬ c x y < 0) && decide (¬ c y x < 0)
def F (l r : List α) : Prop := l.length = r.length ∧ ∀ x, l.filter (eqv c x) = r.filter (eqv c x)
variable {c}
theorem F.rfl {l : List α} : F c l l := ⟨Eq.refl _, fun _ => Eq.refl _⟩
theorem F.trans {l r s : List α} (h : F c l r) (g : F c r s) : F c l s := ⟨h.1.trans g.1, fun x => (h.2 x).trans (g.2 x)⟩
theorem F.symm {l r : List α} (h : F c l r) : F c r l := ⟨h.1.symm, fun x => (h.2 x).symm⟩
theorem F.app {l r l' r' : List α} (h : F c l r) (g : F c l' r') : F c (l ++ l') (r ++ r') :=
 ⟨by rw [List.length_append, List.length_append, h.1, g.1], fun x => by rw [List.filter_append, List.filter_append, h.2 x, g.2 x]⟩
theorem Tot.refl (T : Tot c) (x : α) : ¬ c x x < 0 := fun h => T.asym x x h h
theorem Q1br (T : Tot c) (x : α) : eqv c x x = true := by simpa [eqv] using T.refl x
theorem F.mem (T : Tot c) {l r : List α} (h : F c l r) {x : α} (hx : x ∈ l) : x ∈ r := by
 have h1 : x ∈ l.filter (eqv c x) := List.mem_filter.2 ⟨hx, Q1br T x⟩
 rw [h.2 x] at h1
 exact (List.mem_filter.1 h1).1
theorem F.swap (T : Tot c) {A B : List α} (h : ∀ a ∈ A, ∀ b ∈ B, c b a < 0) : F c (A ++ B) (B ++ A) := by
  refine ⟨by simp [Nat.add_comm], fun x => ?_⟩
  rw [List.filter_append, List.filter_append]
  by_cases hA : A.filter (eqv c x) = []
  · rw [hA]
    simp
  · have hB : B.filter (eqv c x) = [] := by
      obtain ⟨a, ha⟩ := List.exists_mem_of_ne_nil _ hA
      obtain ⟨ha, hxa⟩ := List.mem_filter.1 ha
      refine List.filter_eq_nil_iff.2 fun b hb hxb => ?_
      simp only [eqv, Bool.and_eq_true, decide_eq_true_eq] at hxa hxb
      exact T.tr a x b hxa.1 hxb.2 (h a ha b hb)
    rw [hB]
    simp
theorem Q135 {x y : α} : ∀ {R : List α}, y ∈ insR c x R → y = x ∨ y ∈ R
  | [], h => by simpa [insR] using h
  | s :: t, h => by
    rw [insR] at h
    cases hd : decide (c x s < 0) with
    | true =>
      rw [hd, cond_true] at h
      rcases List.mem_cons.1 h with e | e
      · exact Or.inr (by simp [e])
      · rcases Q135 e with e | e
        · exact Or.inl e
        · exact Or.inr (List.mem_cons_of_mem _ e)
    | false =>
      rw [hd, cond_false] at h
      rcases List.mem_cons.1 h with e | e
      · exact Or.inl e
      · exact Or.inr e
theorem Q195 (T : Tot c) (x : α) : ∀ {R : List α}, R.Pairwise (fun a b => le c b a) → (insR c x R).Pairwise (fun a b => le c b a)
  | [], _ => by simp [insR]
  | s :: t, h => by
    have h' := List.pairwise_cons.1 h
    rw [insR]
    by_cases hd : c x s < 0
    · rw [show decide (c x s < 0) = true by simpa using hd, cond_true]
      refine List.pairwise_cons.2 ⟨fun y hy => ?_, Q195 T x h'.2⟩
      rcases Q135 hy with e | e
      · subst e
        exact T.asym _ _ hd
      · exact h'.1 y e
    · rw [show decide (c x s < 0) = false by simpa using hd, cond_false]
      refine List.pairwise_cons.2 ⟨fun y hy => ?_, h⟩
      rcases List.mem_cons.1 hy with e | e
      · subst e
        exact hd
      · exact T.tr y s x (h'.1 y e) hd
theorem Q1ej (T : Tot c) (x : α) : ∀ (R : List α), F c (R.reverse ++ [x]) (insR c x R).reverse
  | [] => F.rfl
  | s :: t => by
    rw [insR]
    by_cases hd : c x s < 0
    · rw [show decide (c x s < 0) = true by simpa using hd, cond_true, List.reverse_cons, List.reverse_cons, List.append_assoc]
      have h1 : F c ([s] ++ [x]) ([x] ++ [s]) := F.swap T (by simpa using hd)
      exact (F.rfl.app h1).trans (by rw [← List.append_assoc]; exact (Q1ej T x t).app F.rfl)
    · rw [show decide (c x s < 0) = false by simpa using hd, cond_false, List.reverse_cons (a := x)]
      exact F.rfl
theorem Qyw (T : Tot c) : ∀ (M R : List α), R.Pairwise (fun a b => le c b a) → (M.foldl (fun r x => insR c x r) R).Pairwise (fun a b => le c b a) ∧ F c (R.reverse ++ M) (M.foldl (fun r x => insR c x r) R).reverse
 | [], R, h => ⟨h, by simpa using F.rfl⟩
 | x :: M, R, h => by
  obtain ⟨h1, h2⟩ := Qyw T M (insR c x R) (Q195 T x h)
  refine ⟨h1, F.trans ?_ h2⟩
  have e : R.reverse ++ x :: M = (R.reverse ++ [x]) ++ M := by simp
  rw [e]
  exact (Q1ej T x R).app F.rfl
theorem Q12j (T : Tot c) (l : List α) : Up c (Qda c l) := by
 unfold Up Qda
 rw [List.pairwise_reverse]
 exact (Qyw T l [] List.Pairwise.nil).1
theorem Q19u (T : Tot c) (l : List α) : F c l (Qda c l) := (Qyw T l [] List.Pairwise.nil).2
def bs (g : Int → Bool) : Nat → Int → Int → Int
 | 0, i, _ => i
 | k + 1, i, j => bif decide (i < j) then (bif g ((i + j) / 2) then bs g k ((i + j) / 2 + 1) j else bs g k i ((i + j) / 2)) else i
end
end Go.Pv.Srt
end

section
/- The library's stable sort: symmetric merging and the sort as a whole answer the stably sorted list. Program-free. -/
namespace Go.Pv.Srt
section
variable {α : Type} (z : α) (c : α → α → Int)
def st1 (d : List α) (a m b : Int) : Int := bs (fun h => decide (c (gt z d h) (gt z d a) < 0)) ((b - m).toNat + 1) m b
variable {c}
end
end Go.Pv.Srt
end

section
/- The library's stable sort: merging in general, blocks, the whole. Program-free. -/
namespace Go.Pv.Srt
section
variable {α : Type} (z : α) {c : α → α → Int}
end
end Go.Pv.Srt
end

section
/- The library's stable sort: blocks, and the whole: it answers what insertion answers. Program-free. -/
namespace Go.Pv.Srt
section
variable {α : Type} (z : α) (c : α → α → Int)
inductive Bl (s : Nat) : List α → Prop
  | last {l : List α} : l.length ≤ s → Up c l → Bl s l
  | cons {l r : List α} : l.length = s → Up c l → Bl s r → Bl s (l ++ r)
inductive Fu (s : Nat) : List α → Prop
  | nil : Fu s []
  | snoc {p l : List α} : Fu s p → l.length = s → Up c l → Fu s (p ++ l)
variable {c}
theorem Bl.one {s : Nat} {Q : List α} (h : Bl c s Q) (hl : Q.length ≤ s) : Up c Q := by
 cases h with
 | last _ h => exact h
 | cons h1 h2 h3 =>
  rename_i l r
  rw [List.length_append] at hl
  rw [List.length_eq_zero_iff.1 (show r.length = 0 by omega), List.append_nil]
  exact h2
theorem Bl.split {s : Nat} {Q : List α} (h : Bl c s Q) (hl : s < Q.length) : ∃ l r, Q = l ++ r ∧ l.length = s ∧ Up c l ∧ Bl c s r := by
 cases h with
 | last h _ => omega
 | cons h1 h2 h3 => exact ⟨_, _, rfl, h1, h2, h3⟩
end
end Go.Pv.Srt
end

section
/- Comparisons that answer -1, 0 or 1; the order of strings. -/
namespace Go.Pv
def R3 (a : Int) : Prop := a = -1 ∨ a = 0 ∨ a = 1
def T3 (a b e : Int) : Prop := (a = 0 → e = b) ∧ (b = 0 → e = a) ∧ (a = b → e = a)
def lx (a b : Int) : Int := if a = 0 then b else a
def icmp (a b : Int) : Int := if a < b then -1 else if b < a then 1 else 0
theorem Q1j9 (a b : Int) : lx (-a) (-b) = -lx a b := by
 unfold lx
 split <;> split <;> omega
theorem Q1o0 {a b e a' b' e' : Int} (_ha : R3 a) (_hb : R3 b) (_he : R3 e) (t : T3 a b e) (t' : T3 a' b' e') : T3 (lx a a') (lx b b') (lx e e') := by
 unfold T3 at *
 unfold lx R3 at *
 split <;> split <;> split <;> omega
theorem Qz4 (a b : Int) : R3 (icmp a b) := by
  unfold icmp R3
  split
  · omega
  · split <;> omega
theorem Q1cd (a b : Int) : icmp b a = -icmp a b := by
 unfold icmp
 split <;> split <;> first | omega | (split <;> omega) | skip
 all_goals omega
theorem Q1h9 (a b e : Int) : T3 (icmp a b) (icmp b e) (icmp a e) := by
 unfold T3 icmp
 split <;> split <;> split <;> (try split) <;> (try split) <;> (try split) <;> omega
theorem Q18f {a b : Int} : icmp a b = 0 ↔ a = b := by
  unfold icmp
  constructor
  · intro h
    split at h
    · omega
    · split at h <;> omega
  · intro h
    rw [if_neg (by omega), if_neg (by omega)]
theorem Qzp : ∀ a b : List UInt8, R3 (cmpL a b)
  | [], [] => Or.inr (Or.inl rfl)
  | [], _ :: _ => Or.inl rfl
  | _ :: _, [] => Or.inr (Or.inr rfl)
  | x :: a, y :: b => by
    rw [cmpL]
    split
    · exact Or.inl rfl
    · split
      · exact Or.inr (Or.inr rfl)
      · exact Qzp a b
theorem Q7n (x y : UInt8) (a b : List UInt8) : cmpL (x :: a) (y :: b) = lx (icmp (x.toNat : Int) (y.toNat : Int)) (cmpL a b) := by
  rw [cmpL]
  unfold lx icmp
  simp only [UInt8.lt_iff_toNat_lt]
  by_cases h1 : x.toNat < y.toNat
  · rw [if_pos h1, if_pos (show (x.toNat : Int) < (y.toNat : Int) by omega)]
    rfl
  · by_cases h2 : y.toNat < x.toNat
    · rw [if_neg h1, if_pos h2, if_neg (show ¬ (x.toNat : Int) < (y.toNat : Int) by omega), if_pos (show (y.toNat : Int) < (x.toNat : Int) by omega)]
      rfl
    · rw [if_neg h1, if_neg h2, if_neg (show ¬ (x.toNat : Int) < (y.toNat : Int) by omega), if_neg (show ¬ (y.toNat : Int) < (x.toNat : Int) by omega)]
      rfl
theorem Qsj : ∀ a b : List UInt8, cmpL b a = -cmpL a b
 | [], [] => rfl
 | [], _ :: _ => rfl
 | _ :: _, [] => rfl
 | x :: a, y :: b => by rw [Q7n, Q7n, Qsj a b, Q1cd (x.toNat : Int) (y.toNat : Int), Q1j9]
theorem Q19n : ∀ a b d : List UInt8, T3 (cmpL a b) (cmpL b d) (cmpL a d)
 | [], [], [] => by simp [T3, cmpL]
 | [], [], _ :: _ => by simp [T3, cmpL]
 | [], _ :: _, [] => by simp [T3, cmpL]
 | [], _ :: _, _ :: _ => by simp [T3, cmpL]
 | _ :: _, [], [] => by simp [T3, cmpL]
 | _ :: _, [], _ :: _ => by simp [T3, cmpL]
 | x :: a, y :: b, [] => by
  have h := Qzp (x :: a) (y :: b)
  unfold R3 at h
  unfold T3
  rw [show cmpL (y :: b) [] = 1 from rfl, show cmpL (x :: a) [] = 1 from rfl]
  omega
 | x :: a, y :: b, w :: d => by
  rw [Q7n, Q7n, Q7n]
  exact Q1o0 (Qz4 _ _) (Qz4 _ _) (Qz4 _ _) (Q1h9 _ _ _) (Q19n a b d)
theorem Qyn : ∀ a b : List UInt8, cmpL a b = 0 → a = b
  | [], [], _ => rfl
  | [], _ :: _, h => by simp [cmpL] at h
  | _ :: _, [], h => by simp [cmpL] at h
  | x :: a, y :: b, h => by
    rw [Q7n] at h
    unfold lx at h
    split at h
    · rename_i e
      have := Q18f.1 e
      rw [UInt8.toNat_inj.1 (show x.toNat = y.toNat by omega), Qyn a b h]
    · omega
theorem Q19o (a : List UInt8) : cmpL a a = 0 := by
 have := Qsj a a
 omega
theorem Ql6 (a b : ByteArray) : R3 (sCmp a b) := Qzp _ _
theorem Q72 (a b : ByteArray) : sCmp b a = -sCmp a b := Qsj _ _
theorem Q19q (a b d : ByteArray) : T3 (sCmp a b) (sCmp b d) (sCmp a d) := Q19n _ _ _
theorem Qx5 {a b : ByteArray} : sCmp a b = 0 ↔ a = b := ⟨fun h => toList_inj (Qyn _ _ h), fun h => by rw [h]; exact Q19o _⟩
end Go.Pv
end

section
/- Lists of fields: strictly sorted lists are known by their members; keeping the last field of each name of a sorted list; putting a field into a sorted list. -/
namespace Go.Pv
open Srt
theorem Q98 (a : ByteArray) : sCmp a a = 0 := Qx5.2 rfl
theorem Qzd {a b d : ByteArray} (h : sCmp a b < 0) (g : sCmp b d < 0) : sCmp a d < 0 := by
 have t := Q19q a b d
 have h1 := Ql6 a b
 have h2 := Ql6 b d
 unfold R3 at h1 h2
 unfold T3 at t
 omega
theorem Q1e4 {a b : ByteArray} : sEq a b = false ↔ a ≠ b := by
 cases h : sEq a b with
 | true => simp [Q8n.1 h]
 | false => exact ⟨fun _ e => (by rw [Q8n.2 e] at h; cases h), fun _ => rfl⟩
theorem Qgt (a b : ByteArray) : sCmp a b < 0 ∨ a = b ∨ sCmp b a < 0 := by
  have h1 := Ql6 a b
  have h2 := Q72 a b
  have h3 : sCmp a b = 0 → a = b := Qx5.1
  unfold R3 at h1
  by_cases e : sCmp a b = 0
  · exact .inr (.inl (h3 e))
  · omega
theorem Q9u {α : Type} (f : α → ByteArray) : Tot (fun x y : α => sCmp (f x) (f y)) := by
  refine ⟨fun x y h => ?_, fun x y w h g => ?_⟩
  · rw [Q72]
    omega
  · have t := Q19q (f w) (f y) (f x)
    have h1 := Ql6 (f w) (f y)
    have h2 := Ql6 (f y) (f x)
    rw [Q72] at h
    rw [Q72] at g
    have h3 := Q72 (f w) (f y)
    have h4 := Q72 (f y) (f x)
    have h5 := Q72 (f y) (f w)
    have h6 := Q72 (f x) (f y)
    unfold R3 at h1 h2
    unfold T3 at t
    omega
abbrev nlt (x y : Fld) : Prop := sCmp x.name y.name < 0
def SS (l : List Fld) : Prop := l.Pairwise nlt
theorem SS.cons {x : Fld} {l : List Fld} : SS (x :: l) ↔ (∀ y ∈ l, nlt x y) ∧ SS l := List.pairwise_cons
theorem SS.nil : SS [] := List.Pairwise.nil
theorem Q100 (x : Fld) : ¬ nlt x x := by unfold nlt; rw [Q98]; omega
theorem Q1dz : ∀ {l r : List Fld}, SS l → SS r → (∀ f, f ∈ l ↔ f ∈ r) → l = r
  | [], [], _, _, _ => rfl
  | [], y :: r, _, _, h => by have := (h y).2 List.mem_cons_self; cases this
  | x :: l, [], _, _, h => by have := (h x).1 List.mem_cons_self; cases this
  | x :: l, y :: r, hl, hr, h => by
    obtain ⟨hx, hl'⟩ := SS.cons.1 hl
    obtain ⟨hy, hr'⟩ := SS.cons.1 hr
    have e : x = y := by
      rcases List.mem_cons.1 ((h x).1 List.mem_cons_self) with e | e
      · exact e
      · rcases List.mem_cons.1 ((h y).2 List.mem_cons_self) with e' | e'
        · exact e'.symm
        · exact absurd (Qzd (hx y e') (hy x e)) (Q100 x)
    subst e
    have k1 : ∀ f, f ∈ l → f ∈ r := fun f hf => by
      rcases List.mem_cons.1 ((h f).1 (List.mem_cons_of_mem _ hf)) with e | e
      · subst e; exact absurd (hx _ hf) (Q100 _)
      · exact e
    have k2 : ∀ f, f ∈ r → f ∈ l := fun f hf => by
      rcases List.mem_cons.1 ((h f).2 (List.mem_cons_of_mem _ hf)) with e | e
      · subst e; exact absurd (hy _ hf) (Q100 _)
      · exact e
    rw [Q1dz hl' hr' fun f => ⟨k1 f, k2 f⟩]
theorem SS.filter {l : List Fld} (h : SS l) (p : Fld → Bool) : SS (l.filter p) := h.sublist List.filter_sublist
theorem SS.inj {l : List Fld} (h : SS l) {x y : Fld} (hx : x ∈ l) (hy : y ∈ l) (e : x.name = y.name) : x = y := by
  induction l with
  | nil => cases hx
  | cons z l ih =>
    obtain ⟨hz, hl⟩ := SS.cons.1 h
    rcases List.mem_cons.1 hx with e1 | hx' <;> rcases List.mem_cons.1 hy with e2 | hy'
    · rw [e1, e2]
    · subst e1; have := hz y hy'; unfold nlt at this; rw [e, Q98] at this; omega
    · subst e2; have := hz x hx'; unfold nlt at this; rw [e, Q98] at this; omega
    · exact ih hl hx' hy'
def lastOf (l : List Fld) (f : Fld) : Prop := (l.filter fun y => decide (y.name = f.name)).getLast? = some f
theorem Qdp (f : Fld) : ¬ lastOf [] f := by simp [lastOf]
theorem Qav (x f : Fld) (l : List Fld) : lastOf (x :: l) f ↔ lastOf l f ∨ (f = x ∧ ∀ y ∈ l, y.name ≠ x.name) := by
  unfold lastOf
  by_cases h : x.name = f.name
  · rw [List.filter_cons_of_pos (by simpa using h)]
    cases e : l.filter fun y => decide (y.name = f.name) with
    | nil =>
      have := List.filter_eq_nil_iff.1 e
      simp only [List.getLast?_singleton, Option.some.injEq, List.getLast?_nil, reduceCtorEq, false_or]
      exact ⟨fun g => ⟨g.symm, fun y hy => by have := this y hy; rw [h]; simpa using this⟩, fun g => g.1.symm⟩
    | cons a r =>
      rw [List.getLast?_cons_cons]
      refine ⟨.inl, fun g => ?_⟩
      rcases g with g | g
      · exact g
      · have : a ∈ l.filter fun y => decide (y.name = f.name) := by rw [e]; exact List.mem_cons_self
        obtain ⟨h1, h2⟩ := List.mem_filter.1 this
        exact absurd ((of_decide_eq_true h2).trans (by rw [g.1])) (g.2 a h1)
  · rw [List.filter_cons_of_neg (by simpa using h)]
    exact ⟨.inl, fun g => by
      rcases g with g | g
      · exact g
      · exact absurd (by rw [g.1]) h⟩
theorem Q14u {l : List Fld} {f : Fld} (h : lastOf l f) : f ∈ l := (List.mem_filter.1 (List.mem_of_getLast? h)).1
theorem Q1ai {l : List Fld} (h : SS l) (f : Fld) : lastOf l f ↔ f ∈ l := by
 induction l with
 | nil => exact ⟨fun g => absurd g (Qdp f), fun g => by cases g⟩
 | cons x l ih =>
  obtain ⟨hx, hl⟩ := SS.cons.1 h
  rw [Qav, ih hl, List.mem_cons]
  exact ⟨fun g => g.elim .inr fun g => .inl g.1, fun g => g.elim (fun g => .inr ⟨g, fun y hy e => by have := hx y hy; unfold nlt at this; rw [e, Q98] at this; omega⟩) .inl⟩
def lasts : List Fld → List Fld
 | [] => []
 | [x] => [x]
 | x :: y :: r => bif sEq y.name x.name then lasts (y :: r) else x :: lasts (y :: r)
abbrev cNm (x y : Fld) : Int := sCmp x.name y.name
theorem Qx8 : ∀ (l : List Fld), Up cNm l → ∀ f, f ∈ lasts l ↔ lastOf l f
  | [], _, f => ⟨fun g => (by cases g), fun g => absurd g (Qdp f)⟩
  | [x], _, f => by
    rw [Qav]
    simp [lasts, Qdp]
  | x :: y :: r, h, f => by
    have h' := List.pairwise_cons.1 h
    have ih := Qx8 (y :: r) h'.2 f
    rw [lasts, Qav]
    cases e : sEq y.name x.name with
    | true =>
      rw [cond_true, ih]
      exact ⟨.inl, fun g => g.elim id fun g => absurd (Q8n.1 e) (g.2 y List.mem_cons_self)⟩
    | false =>
      rw [cond_false, List.mem_cons, ih]
      refine ⟨fun g => g.elim (fun g => .inr ⟨g, fun w hw hn => ?_⟩) .inl, fun g => g.elim .inr fun g => .inl g.1⟩
      have e := Q1e4.1 e
      rcases List.mem_cons.1 hw with rfl | hw
      · exact e hn
      · have h1 := (List.pairwise_cons.1 h'.2).1 w hw
        have h2 := h'.1 y List.mem_cons_self
        unfold le cNm at h1 h2
        rw [hn] at h1
        rcases Qgt x.name y.name with g | g | g
        · exact h1 g
        · exact e g.symm
        · exact h2 g
theorem Qbg : ∀ (l : List Fld), (lasts l).Sublist l
 | [] => List.Sublist.slnil
 | [x] => List.Sublist.refl _
 | x :: y :: r => by
  rw [lasts]
  cases sEq y.name x.name with
  | true => exact (Qbg (y :: r)).cons x
  | false => exact (Qbg (y :: r)).cons_cons x
theorem Q1cz (l : List Fld) (h : Up cNm l) : SS (lasts l) := by
  induction l with
  | nil => exact SS.nil
  | cons x l ih =>
    cases l with
    | nil => exact SS.cons.2 ⟨fun _ g => (by cases g), SS.nil⟩
    | cons y r =>
      have h' := List.pairwise_cons.1 h
      rw [lasts]
      cases e : sEq y.name x.name with
      | true => exact ih h'.2
      | false =>
        rw [cond_false]
        refine SS.cons.2 ⟨fun w hw => ?_, ih h'.2⟩
        have e := Q1e4.1 e
        have h2 := h'.1 y List.mem_cons_self
        unfold le cNm at h2
        have hxy : sCmp x.name y.name < 0 := by
          rcases Qgt x.name y.name with g | g | g
          · exact g
          · exact absurd g.symm e
          · exact absurd g h2
        rcases List.mem_cons.1 ((Qbg _).mem hw) with rfl | hw
        · exact hxy
        · have h1 := (List.pairwise_cons.1 h'.2).1 w hw
          unfold le cNm at h1
          unfold nlt
          rcases Qgt y.name w.name with g | g | g
          · exact Qzd hxy g
          · rw [← g]; exact hxy
          · exact absurd g h1
theorem Q1ir (x y : Fld) : Srt.eqv cNm x y = decide (y.name = x.name) := by
  unfold Srt.eqv cNm
  have h1 : (y.name = x.name) ↔ (¬ sCmp x.name y.name < 0 ∧ ¬ sCmp y.name x.name < 0) := by
    constructor
    · intro e; rw [e, Q98]; omega
    · intro ⟨g1, g2⟩
      rcases Qgt x.name y.name with g | g | g
      · exact absurd g g1
      · exact g.symm
      · exact absurd g g2
  rw [← Bool.decide_and]
  exact decide_eq_decide.2 h1.symm
theorem Q1bt {l r : List Fld} (h : F cNm l r) (f : Fld) : lastOf l f ↔ lastOf r f := by
 have := h.2 f
 unfold lastOf
 rw [show (fun y : Fld => decide (y.name = f.name)) = Srt.eqv cNm f from funext fun y => (Q1ir f y).symm, this]
def mapOf (l : List Fld) : List Fld := lasts (Qda cNm l)
theorem Q1co (l : List Fld) : SS (mapOf l) := Q1cz _ (Q12j (Q9u Fld.name) l)
theorem Quo (l : List Fld) (f : Fld) : f ∈ mapOf l ↔ lastOf l f := by
 unfold mapOf
 rw [Qx8 _ (Q12j (Q9u Fld.name) l)]
 exact (Q1bt (Q19u (Q9u Fld.name) l) f).symm
theorem Qza {l : List Fld} (h : SS l) : mapOf l = l := Q1dz (Q1co l) h fun f => by rw [Quo, Q1ai h]
theorem Qmu {α : Type} (c : α → α → Int) (T : Tot c) (l : List α) : (Qda c l).length = l.length := (Q19u T l).1.symm
theorem Q1b5 (l : List Fld) : (mapOf l).length ≤ l.length := Nat.le_trans (Qbg _).length_le (Nat.le_of_eq (Qmu _ (Q9u Fld.name) l))
theorem Q19g {l : List Fld} {f : Fld} (h : f ∈ mapOf l) : f ∈ l := Q14u ((Quo l f).1 h)
end Go.Pv
end

section
/- How many values a value holds; what that bounds. -/
namespace Go.Pv
open Srt
end Go.Pv
end

section
/- Structures as values: the parts of a map, their kinds; what decodes what was encoded. No program is in sight here. -/
namespace Go.Pv
abbrev vZ : Val := .mk 0 0 (⟨#[]⟩ : ByteArray) [] []
abbrev vN (n : Int) : Val := .mk 2 n (⟨#[]⟩ : ByteArray) [] []
abbrev vS (s : ByteArray) : Val := .mk 3 0 s [] []
abbrev vB (b : Bool) : Val := .mk 1 (bif b then 1 else 0) (⟨#[]⟩ : ByteArray) [] []
abbrev vL (l : List Val) : Val := .mk 4 0 (⟨#[]⟩ : ByteArray) l []
abbrev vM (l : List Fld) : Val := .mk 5 0 (⟨#[]⟩ : ByteArray) [] l
def Q149 (n : ByteArray) : List Fld → Val
 | [] => vZ
 | x :: r => bif sEq x.name n then x.v else Q149 n r
def prt (v : Val) (n : ByteArray) : Val := bif v.kind == 5 then Q149 n v.fields else vZ
def isM (v : Val) : Bool := v.kind == 5 || v.kind == 0
def xN (x : Val) : Int × Bool := bif x.kind == 2 then (x.n, true) else (0, x.kind == 0)
def xS (x : Val) : ByteArray × Bool := bif x.kind == 3 then (x.s, true) else ((⟨#[]⟩ : ByteArray), x.kind == 0)
def xB (x : Val) : Bool × Bool := bif x.kind == 1 then (!(x.n == 0), true) else (false, x.kind == 0)
def xL (x : Val) : List Val × Bool := bif x.kind == 4 then (x.list, true) else ([], x.kind == 0)
def xE {α : Type} (f : Val → α × Bool) (x : Val) : List α × Bool := ((xL x).1.map fun y => (f y).1, (xL x).2 && (xL x).1.all fun y => (f y).2)
abbrev dN (v : Val) (n : ByteArray) : Int × Bool := xN (prt v n)
abbrev dS (v : Val) (n : ByteArray) : ByteArray × Bool := xS (prt v n)
abbrev dB (v : Val) (n : ByteArray) : Bool × Bool := xB (prt v n)
abbrev dL (v : Val) (n : ByteArray) : List Val × Bool := xL (prt v n)
abbrev dE {α : Type} (f : Val → α × Bool) (v : Val) (n : ByteArray) : List α × Bool := xE f (prt v n)
abbrev dT {α : Type} (f : Val → α × Bool) (v : Val) (n : ByteArray) : α × Bool := f (prt v n)
theorem Q4d {v : Val} (h : (v.kind == 5) = false) (n : ByteArray) : prt v n = vZ := by unfold prt; rw [h]; rfl
theorem Q1b0 {v : Val} (h : (v.kind == 5) = true) : isM v = true := by unfold isM; rw [h]; rfl
theorem Q3x {v : Val} (h : (v.kind == 5) = false) : isM v = (v.kind == 0) := by unfold isM; rw [h]; rfl
theorem xB_b (b : Bool) : xB (vB b) = (b, true) := by cases b <;> rfl
theorem Q4f {α : Type} {f : Val → α × Bool} {e : α → Val} (h : ∀ y, f (e y) = (y, true)) (l : List α) : xE f (vL (l.map e)) = (l, true) := by
 have h1 : ∀ l : List α, (l.map e).map (fun y => (f y).1) = l := by
  intro l
  induction l with
  | nil => rfl
  | cons y l ih => rw [List.map_cons, List.map_cons, ih, h y]
 have h2 : ∀ l : List α, ((l.map e).all fun y => (f y).2) = true := by
  intro l
  induction l with
  | nil => rfl
  | cons y l ih => rw [List.map_cons, List.all_cons, ih, h y]; rfl
 show ((l.map e).map (fun y => (f y).1), true && (l.map e).all fun y => (f y).2) = _
 rw [h1, h2]
 rfl
abbrev sB : Nat := 1000000000
theorem Q1id : Val.Sm sB vZ := Val.Sm.leaf 0 0 _
theorem Q1mp {l : List Val} (h : l.length ≤ sB) (g : ∀ x ∈ l, Val.Sm sB x) : Val.Sm sB (vL l) := .mk _ h (Nat.zero_le _) g (fun _ h => by cases h)
theorem Q8m {l : List Fld} (h : l.length ≤ sB) (g : ∀ x ∈ l, Val.Sm sB x.v) : Val.Sm sB (vM l) := .mk _ (Nat.zero_le _) h (fun _ h => by cases h) g
theorem Q19p {B : Nat} (n : ByteArray) : ∀ {l : List Fld}, (∀ x ∈ l, Val.Sm B x.v) → Val.Sm B (Q149 n l)
 | [], _ => Val.Sm.leaf 0 0 _
 | x :: l, h => by
  unfold Q149
  cases sEq x.name n with
  | true => exact h x List.mem_cons_self
  | false => exact Q19p n fun y hy => h y (List.mem_cons_of_mem _ hy)
theorem Q2y {B : Nat} {v : Val} (h : Val.Sm B v) (n : ByteArray) : Val.Sm B (prt v n) := by
 unfold prt
 cases v.kind == 5 with
 | true => exact Q19p n h.all.2.2.2
 | false => exact Val.Sm.leaf 0 0 _
def LSm {α : Type} (p : α → Prop) (l : List α) : Prop := l.length ≤ sB ∧ ∀ x ∈ l, p x
theorem LSm.leaf {α : Type} {l : List α} (h : l.length ≤ sB) : LSm (fun _ => True) l := ⟨h, fun _ _ => trivial⟩
theorem LSm.nil {α : Type} {p : α → Prop} : LSm p [] := ⟨Nat.zero_le _, fun _ h => by cases h⟩
theorem Qn2 {x : Val} (h : Val.Sm sB x) : (xL x).1.length ≤ sB ∧ ∀ y ∈ (xL x).1, Val.Sm sB y := by
 unfold xL
 cases x.kind == 4 with
 | true => exact ⟨h.all.1, h.all.2.2.1⟩
 | false => exact ⟨Nat.zero_le _, fun _ h => by cases h⟩
theorem Qat {α : Type} {f : Val → α × Bool} {p : α → Prop} (hf : ∀ y, Val.Sm sB y → p (f y).1) {x : Val} (h : Val.Sm sB x) : LSm p (xE f x).1 := by
 have hx := Qn2 h
 refine ⟨by show ((xL x).1.map _).length ≤ _; rw [List.length_map]; exact hx.1, fun z hz => ?_⟩
 obtain ⟨y, hy, rfl⟩ := List.mem_map.1 hz
 exact hf y (hx.2 y hy)
theorem Q32 {α : Type} {e : α → Val} {p : α → Prop} (he : ∀ x, p x → Val.Sm sB (e x)) {l : List α} (h : LSm p l) : Val.Sm sB (vL (l.map e)) :=
 Q1mp (by rw [List.length_map]; exact h.1) fun z hz => by
  obtain ⟨x, hx, rfl⟩ := List.mem_map.1 hz
  exact he x (h.2 x hx)
def ssb : List Fld → Bool
 | [] => true
 | [_] => true
 | x :: y :: r => decide (sCmp x.name y.name < 0) && ssb (y :: r)
theorem Q1ea : ∀ {l : List Fld}, ssb l = true → SS l
  | [], _ => SS.nil
  | [x], _ => SS.cons.2 ⟨(fun _ h => by cases h), SS.nil⟩
  | x :: y :: r, h => by
    unfold ssb at h
    rw [Bool.and_eq_true] at h
    have h1 := of_decide_eq_true h.1
    have h2 := Q1ea h.2
    refine SS.cons.2 ⟨fun z hz => ?_, h2⟩
    rcases List.mem_cons.1 hz with rfl | hz
    · exact h1
    · exact Qzd h1 ((SS.cons.1 h2).1 z hz)
theorem Q18x {l : List Fld} (h : ssb l = true) : mapOf l = l := Qza (Q1ea h)
def s5 (x : Val) : Val := bif x.kind == 5 then x else vZ
theorem Qin {x : Val} (h : Val.Sm sB x) : Val.Sm sB (s5 x) := by
 unfold s5
 cases x.kind == 5 with
 | true => exact h
 | false => exact Q1id
theorem Q3e {α : Type} {f : Val → α × Bool} (hn : ∀ v, (v.kind == 5) = false → f v = ((f vZ).1, v.kind == 0)) (hz : (f vZ).2 = true) (x : Val) : (f (s5 x)).1 = (f x).1 ∧ (f x).2 = (isM x && (f (s5 x)).2) := by
 unfold s5
 cases h : x.kind == 5 with
 | true => exact ⟨rfl, by rw [Q1b0 h, cond_true, Bool.true_and]⟩
 | false => rw [hn x h, cond_false, Q3x h, hz]; exact ⟨rfl, by rw [Bool.and_true]⟩
end Go.Pv
end

section
/- Maps of at most 20 fields, fields of a name and equality in plain words. -/
namespace Go.Proofs.YtiflaadeikaghaaGreat
open Go.Pv Go.Pv.Srt
theorem vind {P : Val → Prop} (h : ∀ v : Val, (∀ x ∈ v.list, P x) → (∀ f ∈ v.fields, P f.v) → P v) : ∀ v, P v := by
  have key : ∀ (k : Nat) (v : Val), SizeOf.sizeOf v < k → P v := by
    intro k
    induction k with
    | zero => intro v hv; exact absurd hv (Nat.not_lt_zero _)
    | succ k ih => intro v hv; exact h v (fun x hx => ih x (by have := szM hx; omega)) (fun f hf => ih f.v (by have := szN hf; omega))
  exact fun v => key _ v (Nat.lt_succ_self _)
theorem Q105 (p q : Val) : ∀ (r : List Val) (i : Nat), p.list.drop i = r → p.list.length = q.list.length → (∀ x ∈ r, ∀ y, Q5f x y = true ↔ x = y) → (Q5t p q r i = .k0 ↔ q.list.drop i = r)
  | [], i, hd, hl, _ => by
    rw [Q5t]
    have := List.drop_eq_nil_iff.1 hd
    simp [List.drop_eq_nil_iff.2 (hl ▸ this)]
  | x :: r, i, hd, hl, hx => by
    obtain ⟨h1, h2, h3⟩ := Q12 hd
    have hq : i < q.list.length := by omega
    rw [Q5t, List.drop_eq_getElem_cons hq, List.getD_eq_getElem?_getD, List.getElem?_eq_getElem hq, Option.getD_some]
    have ih := Q105 p q r (i + 1) h3 hl fun y hy => hx y (List.mem_cons_of_mem _ hy)
    have k := hx x List.mem_cons_self q.list[i]
    cases e : Q5f x q.list[i] with
    | true =>
      rw [cond_true, ih]
      have e' := k.1 e
      constructor
      · intro g; rw [g, ← e']
      · intro g; injection g
    | false =>
      rw [cond_false]
      constructor
      · intro g; cases g
      · intro g
        injection g with g1 g2
        rw [k.2 g1.symm] at e
        cases e
theorem Q114 (p q : Val) : ∀ (r : List Fld) (i : Nat), p.fields.drop i = r → p.fields.length = q.fields.length → (∀ x ∈ r, ∀ y, Q5f x.v y = true ↔ x.v = y) → (Q5u p q r i = .k0 ↔ q.fields.drop i = r)
  | [], i, hd, hl, _ => by
    rw [Q5u]
    have := List.drop_eq_nil_iff.1 hd
    simp [List.drop_eq_nil_iff.2 (hl ▸ this)]
  | x :: r, i, hd, hl, hx => by
    obtain ⟨h1, h2, h3⟩ := Q12 hd
    have hq : i < q.fields.length := by omega
    rw [Q5u, List.drop_eq_getElem_cons hq, List.getD_eq_getElem?_getD, List.getElem?_eq_getElem hq, Option.getD_some]
    have ih := Q114 p q r (i + 1) h3 hl fun y hy => hx y (List.mem_cons_of_mem _ hy)
    have k := hx x List.mem_cons_self q.fields[i].v
    cases en : sEq x.name q.fields[i].name with
    | false =>
      rw [cond_false]
      constructor
      · intro g; cases g
      · intro g
        injection g with g1 g2
        rw [g1] at en
        exact absurd (Q8n.2 rfl) (by rw [en]; simp)
    | true =>
      rw [cond_true]
      cases e : Q5f x.v q.fields[i].v with
      | true =>
        rw [cond_true, ih]
        have e' := k.1 e
        have e1 : x = q.fields[i] := by
          have n := Q8n.1 en
          revert e' n
          generalize q.fields[i] = y
          intro a b
          cases x; cases y
          simp only [Fld.name, Fld.v] at a b
          rw [a, b]
        constructor
        · intro g; rw [g, ← e1]
        · intro g; injection g
      | false =>
        rw [cond_false]
        constructor
        · intro g; cases g
        · intro g
          injection g with g1 g2
          rw [k.2 (by rw [g1])] at e
          cases e
theorem Q19k : ∀ a b : Val, Q5f a b = true ↔ a = b := vind fun a h1 h2 b => by
  have b0 := fun hl => Q105 a b a.list 0 rfl hl h1
  have b1 := fun hl => Q114 a b a.fields 0 rfl hl h2
  rw [Q5f]
  constructor
  · intro h
    cases c1 : a.kind == b.kind with
    | false => rw [c1] at h; cases h
    | true =>
      rw [c1, cond_true] at h
      cases c2 : a.n == b.n with
      | false => rw [c2] at h; cases h
      | true =>
        rw [c2, cond_true] at h
        cases c3 : sEq a.s b.s with
        | false => rw [c3] at h; cases h
        | true =>
          rw [c3, cond_true] at h
          cases c4 : ((a.list.length : Int) == (b.list.length : Int)) with
          | false => rw [c4] at h; cases h
          | true =>
            rw [c4, cond_true] at h
            cases c5 : ((a.fields.length : Int) == (b.fields.length : Int)) with
            | false => rw [c5] at h; cases h
            | true =>
              rw [c5, cond_true] at h
              have e4 := eq_of_beq c4
              have e5 := eq_of_beq c5
              cases l0 : Q5t a b a.list 0 with
              | k1 => rw [l0] at h; cases h
              | k0 =>
                rw [l0] at h
                cases l1 : Q5u a b a.fields 0 with
                | k1 => rw [l1] at h; cases h
                | k0 =>
                  have g0 := (b0 (by omega)).1 l0
                  have g1 := (b1 (by omega)).1 l1
                  rw [List.drop_zero] at g0 g1
                  have q1 := eq_of_beq c1
                  have q2 := eq_of_beq c2
                  have q3 := Q8n.1 c3
                  revert q1 q2 q3 g0 g1
                  clear h b0 b1 h1 h2 l0 l1 c1 c2 c3 c4 c5 e4 e5
                  cases a; cases b
                  simp only [Val.kind, Val.n, Val.s, Val.list, Val.fields]
                  intro q1 q2 q3 g0 g1
                  rw [q1, q2, q3, g0, g1]
  · rintro rfl
    rw [(b0 rfl).2 rfl, (b1 rfl).2 rfl, Q8n.2 rfl]
    simp
theorem Q9x (v : Val) : Q5f v v = true := (Q19k v v).2 rfl
theorem vprt (v : Val) (n : BA) : (Qt7 v n).1 = prt v n := by
  unfold Qt7 prt
  cases v.kind == 5 with
  | false => rfl
  | true =>
    simp only [cond_true]
    have : ∀ (l : List Fld) (i : Nat), (match Q73 v n l i with | .k0 => (Val.mk 0 0 ⟨#[]⟩ [] [], false) | .k1 y => (y, true)).1 = Q149 n l := by
      intro l
      induction l with
      | nil => intro i; rfl
      | cons x l ih =>
        intro i
        rw [Q73, Q149]
        cases sEq x.name n with
        | true => rfl
        | false => exact ih (i + 1)
    exact this _ _
abbrev Qdu : Fld := zF
theorem Q1e5 (n0 : Nat) (a b i : Int) : ∀ (k : Nat) (v : List Fld) (j : Int), Q3f n0 a b i k v j = ins1 Qdu cNm a k v j
  | 0, _, _ => rfl
  | k + 1, v, j => by
    rw [Q3f, ins1, Q1e5 n0 a b i k]
    rfl
theorem Q1eq (n0 : Nat) (a b : Int) : ∀ (k : Nat) (i : Int) (v : List Fld), Q45 n0 a b k i v = ins0 Qdu cNm a b k i v
  | 0, _, _ => rfl
  | k + 1, i, v => by
    rw [Q45, ins0, Q1eq n0 a b k, Q1e5]
theorem Q1k9 (n0 : Nat) (d : List Fld) (a b : Int) : Q27 n0 d a b = ins Qdu cNm d a b := Q1eq n0 a b _ _ _
theorem Qt5 {l : List Fld} (h : l.length ≤ 20) : Qr l.length l = Qda cNm l := by
  unfold Qr Q58
  have i1 : ∀ v, Q5d l.length (l.length : Int) (0 + 1) v = v := fun v => rfl
  rw [i1, Q1k9, Q3a]
  by_cases c : (20 : Int) ≤ (l.length : Int)
  · rw [show decide ((20 : Int) ≤ (l.length : Int)) = true by simpa using c, cond_true, Q1k9, show Int.toNat ((l.length : Int) + 20 - 20) = 19 + 1 by omega, Q3a, show decide ((20 : Int) + 20 ≤ (l.length : Int)) = false by simp; omega, cond_false]
    have e1 := Qrz (z := Qdu) (c := cNm) (d := l) (A := []) (M := l) (C := []) (a := 0) (b := 20) (by simp) rfl (by omega)
    rw [List.nil_append, List.append_nil] at e1
    rw [e1, Qrz (z := Qdu) (c := cNm) (d := Qda cNm l) (A := Qda cNm l) (M := []) (C := []) (by simp) (by rw [Qmu _ (Q9u Fld.name)]; omega) (by simp; omega)]
    simp [Qda]
  · rw [show decide ((20 : Int) ≤ (l.length : Int)) = false by simpa using c, cond_false]
    have e1 := Qrz (z := Qdu) (c := cNm) (d := l) (A := []) (M := l) (C := []) (a := 0) (b := (l.length : Int)) (by simp) rfl (by omega)
    rw [List.nil_append, List.append_nil] at e1
    exact e1
theorem Qdv (p : List Fld) : (Qda cNm p).length = p.length := Qmu _ (Q9u Fld.name) p
theorem Q1ay {p : List Fld} (hp : p.length ≤ 20) : ∀ (r : List Fld) (i : Nat) (a : List Fld), (Qda cNm p).drop i = r → Q3d p r i a = a ++ lasts r
  | [], i, a, _ => by rw [Q3d, lasts]; simp
  | [x], i, a, hd => by
    have hl := Qdv p
    have h := congrArg List.length hd
    rw [List.length_drop, List.length_singleton] at h
    rw [Q3d, show (((i + 1 : Nat) : Int) == (List.length p : Int)) = true by simp; omega, cond_true, Q3d]
    rfl
  | x :: y :: r, i, a, hd => by
    have hl := Qdv p
    have h := congrArg List.length hd
    rw [List.length_drop, List.length_cons, List.length_cons] at h
    obtain ⟨_, _, hd'⟩ := Q12 hd
    obtain ⟨hy, _, _⟩ := Q12 hd'
    rw [Q3d, show (((i + 1 : Nat) : Int) == (List.length p : Int)) = false by simp; omega, cond_false, Qt5 hp, Int.toNat_natCast, List.getD_eq_getElem?_getD, hy, Option.getD_some, lasts]
    cases sEq y.name x.name with
    | true => rw [cond_true, cond_true, Q1ay hp (y :: r) (i + 1) a hd']
    | false => rw [cond_false, cond_false, Q1ay hp (y :: r) (i + 1) _ hd']; simp
theorem Qjt {p : List Fld} (hp : p.length ≤ 20) : Q3d p (Qr p.length p) 0 [] = mapOf p := by
  rw [Q1ay hp _ 0 [] (by rw [Qt5 hp]; rfl), Qt5 hp]
  rfl
theorem vmap {p : List Fld} (hp : p.length ≤ 20) : Qa6 p = vM (mapOf p) := by
  unfold Qa6
  rw [Qjt hp]
theorem Q59 {p : List Fld} (hp : p.length ≤ 20) (hs : ssb p = true) : Qa6 p = vM p := by rw [vmap hp, Q18x hs]
theorem Q1ks {l : List Fld} (hl : l.length ≤ 20) (h : ∀ f ∈ l, Val.Sm sB f.v) : Val.Sm sB (vM (mapOf l)) :=
  .mk _ (Nat.zero_le _) (Nat.le_trans (Q1b5 l) (by show l.length ≤ 1000000000; omega)) (fun _ g => by cases g) fun f hf => h f (Q19g hf)
theorem Qjw {l : List Fld} (hl : l.length ≤ 20) (h : ∀ f ∈ l, Val.Sm sB f.v) : Qcv l := by
  refine ⟨by omega, by omega, ⟨?_, trivial⟩, ?_, trivial⟩
  · rw [Qt5 hl, Qdv]
    omega
  · rw [Qjt hl]
    exact Q1ks hl h
theorem Q1ny {v : Val} (h : Val.Sm sB v) (n : BA) : Q1ft v n := ⟨⟨Nat.le_trans h.all.2.1 (Nat.le_of_ble_eq_true rfl), h.all.2.2.2, trivial⟩, trivial⟩
end Go.Proofs.YtiflaadeikaghaaGreat
end

