/- Texts of the claim, merged by a program; what the statement does not reach is left out. -/
import Derived.Test.YtbagpdebihicnaaGreatBWorkcodecNetwork2
import Derived.KernelRfl
import Derived.OpenShut
import Derived.ChangeArms
import Derived.ChangeSlices
import Derived.ChangeOld
import Derived.Carry
import GoSem.ClaimJoined

section
/-
  Runs along a trace, over views: operations, regions, code, calls, loops' rounds.
-/
namespace Go.Pv
def Seen (o : Option Ob) (rows : List (List PV)) : Prop := ∃ ob, o = some ob ∧ ViewOK ob.sz ob.cells rows
theorem Q2f {ob : Ob} {rows : List (List PV)} (h : ViewOK ob.sz ob.cells rows) : Seen (some ob) rows := ⟨ob, rfl, h⟩
def putV (vw : Views) (cut : List Nat) (new : Views) : Views := new ++ vw.filter fun x => !(has cut x.1)
theorem Qsa {vw : Views} {cut : List Nat} {id : Nat} {rows : List (List PV)} (h : look (vw.filter fun x => !(has cut x.1)) id = some rows) : look vw id = some rows ∧ has cut id = false := by
 induction vw with
 | nil => cases h
 | cons x r ih =>
  obtain ⟨k, rs⟩ := x
  simp only [List.filter_cons] at h
  cases hc : has cut k with
  | true =>
   rw [hc] at h
   simp only [Bool.not_true, Bool.false_eq_true, if_false] at h
   obtain ⟨h1, h2⟩ := ih h
   refine ⟨?_, h2⟩
   simp only [look]
   cases c : Nat.beq k id with
   | true =>
    have := Nat.eq_of_beq_eq_true c
    subst this
    rw [hc] at h2
    cases h2
   | false => exact h1
  | false =>
   rw [hc] at h
   simp only [Bool.not_false, if_true, look] at h ⊢
   cases c : Nat.beq k id with
   | true =>
    rw [c] at h
    have := Nat.eq_of_beq_eq_true c
    subst this
    exact ⟨h, hc⟩
   | false =>
    rw [c] at h
    exact ih h
theorem Qqj {l : List Nat} {id : Nat} (h : has l id = false) : id ∉ l := by
  induction l with
  | nil => exact List.not_mem_nil
  | cons k r ih =>
    simp only [has] at h
    cases c : Nat.beq k id with
    | true => rw [c] at h; cases h
    | false =>
      rw [c] at h
      simp only [cond_false] at h
      intro hm
      rcases List.mem_cons.1 hm with rfl | hm
      · simp at c
      · exact ih h hm
theorem Qfn {vw new : Views} {cut : List Nat} {id : Nat} {rows : List (List PV)} (h : look (putV vw cut new) id = some rows) : look new id = some rows ∨ (look vw id = some rows ∧ id ∉ cut) := by
 unfold putV at h
 rw [Qmo] at h
 cases hn : look new id with
 | some r => rw [hn] at h; exact .inl h
 | none =>
  rw [hn] at h
  obtain ⟨h1, h2⟩ := Qsa h
  exact .inr ⟨h1, Qqj h2⟩
theorem Qsb {α : Type} {l : List (Nat × α)} {id : Nat} {x : α} (h : look l id = some x) : (id, x) ∈ l := by
 induction l with
 | nil => cases h
 | cons y r ih =>
  obtain ⟨k, z⟩ := y
  simp only [look] at h
  cases c : Nat.beq k id with
  | true =>
   rw [c] at h
   have := Nat.eq_of_beq_eq_true c
   subst this
   simp only [cond_true, Option.some.injEq] at h
   subst h
   exact List.mem_cons_self
  | false =>
   rw [c] at h
   exact List.mem_cons_of_mem _ (ih h)
def Turned (H : Nat → Option Ob) (vw : Views) (e : EV) : Prop := VOK (upH H e.eff.hw) (putV vw e.cut e.new)
theorem Qwp {ws : List (Nat × Option Ob)} {H : Nat → Option Ob} {id : Nat} {o : Option Ob} (hn : (ws.map (·.1)).Nodup) (h : (id, o) ∈ ws) : upH H ws id = o := by
  induction ws generalizing H with
  | nil => cases h
  | cons x r ih =>
    obtain ⟨k, z⟩ := x
    simp only [List.map_cons, List.nodup_cons] at hn
    rw [upH]
    rcases List.mem_cons.1 h with e | h
    · injection e with e1 e2
      subst e1 e2
      rw [Q5c (fun y hy e => hn.1 (by rw [← e]; exact List.mem_map_of_mem hy))]
      simp
    · exact ih hn.2 h
def nodupB : List Nat → Bool
 | [] => true
 | k :: r => !(has r k) && nodupB r
theorem Qrb : ∀ {l : List Nat}, nodupB l = true → l.Nodup
 | [], _ => List.nodup_nil
 | k :: r, h => by
  simp only [nodupB, Bool.and_eq_true, Bool.not_eq_true'] at h
  exact List.nodup_cons.2 ⟨Qqj h.1, Qrb h.2⟩
theorem Qro {H : Nat → Option Ob} : ∀ (l : List Nat) (cl : List (Nat × Option Ob)), shut H l = some cl → ∀ id o, (id, o) ∈ cl → ∃ ob ob', H id = some ob ∧ o = some ob' ∧ ob'.sz = ob.sz ∧ ob'.cells = ob.cells
  | [], cl, h, id, o, hm => by
    simp only [shut, Option.some.injEq] at h
    subst h
    cases hm
  | k :: r, cl, h, id, o, hm => by
    simp only [shut] at h
    obtain ⟨ob, hob, h⟩ := Qf h
    obtain ⟨m, hm', h⟩ := Qf h
    simp only [Option.some.injEq] at h
    subst h
    rcases List.mem_cons.1 hm with e | hm
    · injection e with e1 e2
      subst e1 e2
      exact ⟨ob, _, hob, rfl, rfl, rfl⟩
    · exact Qro r m hm' id o hm
def Q10j (H : Nat → Option Ob) (vw : Views) (fr : Nat) (byRef : Bool) (f : Nat) (args : List PV) (az : List Ans) : Option EV :=
  (Q16c H vw fr byRef f args az).bind fun e => bif nodupB (e.eff.hw.map (·.1)) then some e else none
theorem Qqk {G : Nat → Option Fun} {H : Nat → Option Ob} {vw : Views} (hv : VOK H vw) {fr : Nat} {byRef : Bool} {f : Nat} {args : List PV} {az : List Ans} {e : EV} (h : Q10j H vw fr byRef f args az = some e) (hm : Met e.owed) (hq : Told G e.asked) : Qax (lim G) H fr byRef f args = some e.eff ∧ Turned H vw e := by
  unfold Q10j at h
  obtain ⟨e', h0, h'⟩ := Qf h
  clear h
  cases hnd : nodupB (e'.eff.hw.map (·.1)) with
  | false => rw [hnd] at h'; cases h'
  | true =>
  rw [hnd] at h'
  simp only [cond_true, Option.some.injEq] at h'
  subst h'
  have hnd := Qrb hnd
  unfold Q16c at h0
  unfold Qax
  obtain ⟨y, hy, h⟩ := Qf h0
  clear h0
  obtain ⟨z, hz, h⟩ := Qf h
  simp only at h
  cases hd : disj (y.1.2.2 ++ z.1.2.2) z.1.2.1 with
  | false => rw [hd] at h; cases h
  | true =>
    rw [hd] at h
    simp only [cond_true] at h
    cases az with
    | nil => cases h
    | cons a az' =>
      obtain ⟨r, avw⟩ := a
      cases r with
      | st _ _ => cases h
      | ret v hh =>
        simp only at h
        cases hb : (Nat.ble z.1.2.1.length hh.length && Nat.ble (hh.length - z.1.2.1.length) 64) with
        | false => rw [hb] at h; cases h
        | true =>
          rw [hb] at h
          simp only [cond_true] at h
          obtain ⟨v', hv', h⟩ := Qf h
          obtain ⟨ws, hws, h⟩ := Qf h
          have key : ∀ (hy' : Met y.2) (hz' : Met z.2) (hw' : Met ws.2.1) (ht : Q6 G (.call f y.1.1 z.1.1) (.ret v hh)) (E : Eff),
              (bif flat 8 v && hh.all (fun ob => ob.cells.all (flat 8)) then some ⟨v', ws.1, z.1.2.1 ++ (y.1.2.2 ++ z.1.2.2)⟩ else (shut H (y.1.2.2 ++ z.1.2.2)).bind fun cl => some ⟨v', ws.1 ++ cl, z.1.2.1 ++ (y.1.2.2 ++ z.1.2.2)⟩) = some E →
              ((Q3b (pass H byRef 8) args []).bind fun y => (Q1u H false false 16 0 y.2.1).bind fun z =>
                let ids := z.2.1
                let lent := y.2.2 ++ z.2.2
                bif disj lent ids then
                  (lim G (.call f y.1 z.1)).bind fun r =>
                    match r with
                    | .ret v h =>
                      bif Nat.ble ids.length h.length && Nat.ble (h.length - ids.length) 64 then
                        (back (ren ids fr) 8 v).bind fun v' => (Q6g (ren ids fr) 0 h).bind fun ws =>
                          bif flat 8 v && h.all (fun ob => ob.cells.all (flat 8)) then some ⟨v', ws, ids ++ lent⟩
                          else (shut H lent).bind fun cl => some ⟨v', ws ++ cl, ids ++ lent⟩
                      else none
                    | _ => none
                else none) = some E := by
            intro hy' hz' hw' ht E hE
            rw [Q22 (Q52 hv 8) _ _ y hy hy', Option.bind_some, Q2y hv 16 _ _ z hz hz', Option.bind_some]
            simp only
            rw [hd]
            simp only [cond_true]
            rw [Q16f ht, Option.bind_some]
            simp only
            rw [hb]
            simp only [cond_true]
            rw [hv', Option.bind_some, Q5v hh 0 ws hws hw', Option.bind_some]
            exact hE
          have turn : ∀ (cl : List (Nat × Option Ob)) (hcl : ∀ id o, (id, o) ∈ cl → ∃ ob ob', H id = some ob ∧ o = some ob' ∧ ob'.sz = ob.sz ∧ ob'.cells = ob.cells) (hn : ((ws.1 ++ cl).map (·.1)).Nodup) (hw' : Met ws.2.1) , VOK (upH H (ws.1 ++ cl)) (putV vw (ws.1.map (·.1)) ws.2.2) := by
            intro cl hcl hn hw' id rows hl
            rcases Qfn hl with hl | ⟨hl, hc⟩
            · obtain ⟨ob, hob, hok⟩ := Q5w hh 0 ws hws hw' id rows (Qsb hl)
              exact ⟨ob, Qwp hn (List.mem_append_left _ hob), hok⟩
            · obtain ⟨ob, hob, hok⟩ := hv id rows hl
              by_cases hx : ∃ o, (id, o) ∈ cl
              · obtain ⟨o, ho⟩ := hx
                obtain ⟨ob1, ob', h1, rfl, h2, h3⟩ := hcl id o ho
                rw [hob] at h1
                injection h1 with h1
                subst h1
                refine ⟨ob', Qwp hn (List.mem_append_right _ ho), ?_⟩
                rw [h2, h3]
                exact hok
              · refine ⟨ob, ?_, hok⟩
                rw [Q5c (fun y hy e => ?_)]
                · exact hob
                · rcases List.mem_append.1 hy with hy | hy
                  · exact hc (by rw [← e]; exact List.mem_map_of_mem hy)
                  · exact hx ⟨y.2, by rw [← e]; exact hy⟩
          cases hlent : y.1.2.2 ++ z.1.2.2 with
          | nil =>
            rw [hlent] at h
            simp only [Option.some.injEq] at h
            subst h
            simp only at hm hq hnd
            refine ⟨key hm.left hm.right.left hm.right.right (hq _ List.mem_cons_self) _ ?_, ?_⟩
            · rw [hlent]
              cases (flat 8 v && hh.all (fun ob => ob.cells.all (flat 8))) <;> simp [shut]
            · have := turn [] (fun _ _ h => by cases h) (by simpa using hnd) hm.right.right
              rw [List.append_nil] at this
              exact this
          | cons l0 lr =>
            rw [hlent] at h
            simp only at h
            cases hf : (flat 8 v && hh.all (fun ob => ob.cells.all (flat 8))) with
            | true =>
              rw [hf] at h
              simp only [cond_true, Option.some.injEq] at h
              subst h
              simp only at hm hq hnd
              refine ⟨key hm.left hm.right.left hm.right.right (hq _ List.mem_cons_self) _ ?_, ?_⟩
              · rw [hlent, hf]
                rfl
              · have := turn [] (fun _ _ h => by cases h) (by simpa using hnd) hm.right.right
                rw [List.append_nil] at this
                exact this
            | false =>
              rw [hf] at h
              simp only [cond_false] at h
              obtain ⟨cl, hcl, h⟩ := Qf h
              simp only [Option.some.injEq] at h
              subst h
              simp only at hm hq hnd
              refine ⟨key hm.left hm.right.left hm.right.right (hq _ List.mem_cons_self) _ ?_, ?_⟩
              · rw [hlent, hf]
                simp only [cond_false]
                rw [hcl, Option.bind_some]
              · exact turn cl (Qro _ _ hcl) hnd hm.right.right
def mute : Orc := fun _ => none
theorem Qv3 {X : Orc} {e : Nat → PV} {H : Nat → Option Ob} {fr : Nat} {o : IOp} {x : Eff} (h : iop mute e H fr o = some x) : iop X e H fr o = some x := by
 cases o with
 | call b f xs =>
  simp only [iop] at h
  obtain ⟨t, _, h⟩ := Qf h
  unfold Qax at h
  obtain ⟨y, _, h⟩ := Qf h
  obtain ⟨z, _, h⟩ := Qf h
  simp only at h
  cases hd : disj (y.2.2 ++ z.2.2) z.2.1 with
  | false => rw [hd] at h; cases h
  | true =>
   rw [hd] at h
   simp only [cond_true] at h
   obtain ⟨_, h, _⟩ := Qf h
   cases h
 | _ => exact h
theorem Qx8 {X : Orc} {e : Nat → PV} {H : Nat → Option Ob} {fr : Nat} {o : IOper} {x : Eff} (h : Q5y mute e H fr o = some x) : Q5y X e H fr o = some x := by
 unfold Q5y at h ⊢
 obtain ⟨w, hw, h⟩ := Qf h
 rw [hw, Option.bind_some]
 cases w with
 | true => exact Qv3 h
 | false => exact h
def iopV (e : Nat → PV) (H : Nat → Option Ob) (vw : Views) (fr : Nat) (az : List Ans) : IOp → Option EV
  | .call byRef f args => (target (f.ev e) (evs e args)).bind fun t => Q10j H vw fr byRef t.1 t.2 az
  | o => (iop mute e H fr o).bind fun x => some ⟨x, x.hw.map (·.1), [], az, [], []⟩
def Qv4 (e : Nat → PV) (H : Nat → Option Ob) (vw : Views) (fr : Nat) (az : List Ans) (o : IOper) : Option EV :=
 (o.wanted e).bind fun w => bif w then iopV e H vw fr az o.op else some ⟨⟨.tup [], [], []⟩, [], [], az, [], []⟩
theorem Qaq {H : Nat → Option Ob} {vw : Views} (hv : VOK H vw) {x : Eff} {az : List Ans} : Turned H vw ⟨x, x.hw.map (·.1), [], az, [], []⟩ := by
  intro id rows hl
  rcases Qfn hl with hl | ⟨hl, hc⟩
  · cases hl
  · obtain ⟨ob, hob, hok⟩ := hv id rows hl
    refine ⟨ob, ?_, hok⟩
    rw [Q5c (fun y hy e => hc (by rw [← e]; exact List.mem_map_of_mem hy))]
    exact hob
theorem Qam {G : Nat → Option Fun} {e : Nat → PV} {H : Nat → Option Ob} {vw : Views} (hv : VOK H vw) {fr : Nat} {az : List Ans} {o : IOper} {y : EV} (h : Qv4 e H vw fr az o = some y) (hm : Met y.owed) (hq : Told G y.asked) : Q5y (lim G) e H fr o = some y.eff ∧ Turned H vw y := by
  unfold Qv4 at h
  obtain ⟨w, hw, h⟩ := Qf h
  unfold Q5y
  rw [hw, Option.bind_some]
  cases w with
  | false =>
    simp only [cond_false, Option.some.injEq] at h
    subst h
    exact ⟨rfl, Qaq hv (x := ⟨.tup [], [], []⟩)⟩
  | true =>
    simp only [cond_true] at h ⊢
    have gen : ((iop mute e H fr o.op).bind fun x => some (⟨x, x.hw.map (·.1), [], az, [], []⟩ : EV)) = some y → iop (lim G) e H fr o.op = some y.eff ∧ Turned H vw y := by
      intro h
      obtain ⟨x, hx, h⟩ := Qf h
      simp only [Option.some.injEq] at h
      subst h
      exact ⟨Qv3 hx, Qaq hv⟩
    cases ho : o.op with
    | call b f xs =>
      rw [ho] at h
      simp only [iopV] at h
      obtain ⟨t, ht, h⟩ := Qf h
      simp only [iop]
      rw [ht, Option.bind_some]
      exact Qqk hv h hm hq
    | _ =>
      rw [ho] at h gen
      exact gen h
abbrev Q5i := List (Nat × (Eff × Views))
structure TV where
  env : List PV
  heap : List (Nat × Ob)
  vw : Views
  effs : List Eff
  hs : Q5i
  az : List Ans
  owed : List Prop
  asked : Q7x
def nobody : Nat → Option Ob := fun _ => none
def Qqn (nx : Nat) : Nat → List IOper → Q5i → List Ans → List PV → List (Nat × Ob) → Views → Option TV
  | _, [], hs, az, env, h, vw => some ⟨env, h, vw, [], hs, az, [], []⟩
  | i, o :: r, hs, az, env, h, vw =>
    match hs with
    | [] => (Qv4 (envF env) (look h) vw (nx + 64 * i) az o).bind fun x => (Qqn nx (i + 1) r [] x.az (put env o.dst x.eff.v) (hput h x.eff.hw) (putV vw x.cut x.new)).bind fun y => some ⟨y.env, y.heap, y.vw, x.eff :: y.effs, y.hs, y.az, x.owed ++ y.owed, x.asked ++ y.asked⟩
    | (k + 1, z) :: hs' => (Qv4 (envF env) (look h) vw (nx + 64 * i) az o).bind fun x => (Qqn nx (i + 1) r ((k, z) :: hs') x.az (put env o.dst x.eff.v) (hput h x.eff.hw) (putV vw x.cut x.new)).bind fun y => some ⟨y.env, y.heap, y.vw, x.eff :: y.effs, y.hs, y.az, x.owed ++ y.owed, x.asked ++ y.asked⟩
    | (0, x) :: hs' => (Qqn nx (i + 1) r hs' az (put env o.dst x.1.v) (hput h x.1.hw) (putV vw (x.1.hw.map (·.1)) x.2)).bind fun y => some ⟨y.env, y.heap, y.vw, x.1 :: y.effs, y.hs, y.az, (Q5y mute (envF env) (look h) (nx + 64 * i) o = some x.1) :: ((x.2.map fun p => Seen (upH nobody x.1.hw p.1) p.2) ++ y.owed), y.asked⟩
theorem VOK.turned {h : List (Nat × Ob)} {vw : Views} {y : EV} (ht : Turned (look h) vw y) : VOK (look (hput h y.eff.hw)) (putV vw y.cut y.new) := by
 rw [Q51]
 exact ht
theorem Qyb {ws : List (Nat × Option Ob)} {H : Nat → Option Ob} {id : Nat} {ob : Ob} (h : upH nobody ws id = some ob) : upH H ws id = some ob := by
  by_cases c : ∃ x ∈ ws, x.1 = id
  · rw [Qfz (H' := nobody) c]
    exact h
  · rw [Q5c (fun y hy e => c ⟨y, hy, e⟩)] at h
    cases h
theorem Qf7 {G : Nat → Option Fun} {nx : Nat} : ∀ (ops : List IOper) (i : Nat) (hs : Q5i) (az : List Ans) (env : List PV) (h : List (Nat × Ob)) (vw : Views) (t : TV), Qqn nx i ops hs az env h vw = some t → VOK (look h) vw → Met t.owed → Told G t.asked → Q45 (lim G) nx i ops env h = some (t.env, t.heap, t.effs) ∧ VOK (look t.heap) t.vw
  | [], i, hs, az, env, h, vw, t, ht, hv, _, _ => by
    simp only [Qqn, Option.some.injEq] at ht
    subst ht
    exact ⟨rfl, hv⟩
  | o :: r, i, hs, az, env, h, vw, t, ht, hv, hm, hq => by
    have go : ∀ (x : EV) (hs' : Q5i) (vw' : Views), Q5y (lim G) (envF env) (look h) (nx + 64 * i) o = some x.eff → VOK (look (hput h x.eff.hw)) vw' → ∀ (y : TV), Qqn nx (i + 1) r hs' x.az (put env o.dst x.eff.v) (hput h x.eff.hw) vw' = some y → Met y.owed → Told G y.asked → y.env = t.env → y.heap = t.heap → y.vw = t.vw → x.eff :: y.effs = t.effs → Q45 (lim G) nx i (o :: r) env h = some (t.env, t.heap, t.effs) ∧ VOK (look t.heap) t.vw := by
      intro x hs' vw' hx hvx y hy hmy hqy e1 e2 e3 e4
      obtain ⟨r1, r2⟩ := Qf7 r (i + 1) hs' _ _ _ _ y hy hvx hmy hqy
      simp only [Q45]
      rw [hx, Option.bind_some, r1, Option.bind_some, ← e1, ← e2, ← e3, ← e4]
      exact ⟨rfl, r2⟩
    unfold Qqn at ht
    split at ht
    · obtain ⟨x, hx, ht⟩ := Qf ht
      obtain ⟨y, hy, ht⟩ := Qf ht
      simp only [Option.some.injEq] at ht
      subst ht
      obtain ⟨s1, s2⟩ := Qam hv hx hm.left hq.left
      exact go x _ _ s1 (VOK.turned s2) y hy hm.right hq.right rfl rfl rfl rfl
    · obtain ⟨x, hx, ht⟩ := Qf ht
      obtain ⟨y, hy, ht⟩ := Qf ht
      simp only [Option.some.injEq] at ht
      subst ht
      obtain ⟨s1, s2⟩ := Qam hv hx hm.left hq.left
      exact go x _ _ s1 (VOK.turned s2) y hy hm.right hq.right rfl rfl rfl rfl
    · rename_i x hs'
      obtain ⟨y, hy, ht⟩ := Qf ht
      simp only [Option.some.injEq] at ht
      subst ht
      have hx : Q5y (lim G) (envF env) (look h) (nx + 64 * i) o = some x.1 := Qx8 hm.head
      have hseen : Met (x.2.map fun p => Seen (upH nobody x.1.hw p.1) p.2) := hm.tail.left
      have hvx : VOK (look (hput h x.1.hw)) (putV vw (x.1.hw.map (·.1)) x.2) := by
        rw [Q51]
        intro id rows hl
        rcases Qfn hl with hl | ⟨hl, hc⟩
        · obtain ⟨ob, hob, hok⟩ := hseen _ (List.mem_map_of_mem (f := fun p : Nat × List (List PV) => Seen (upH nobody x.1.hw p.1) p.2) (Qsb hl))
          exact ⟨ob, Qyb hob, hok⟩
        · obtain ⟨ob, hob, hok⟩ := hv id rows hl
          refine ⟨ob, ?_, hok⟩
          rw [Q5c (fun y hy e => hc (by rw [← e]; exact List.mem_map_of_mem hy))]
          exact hob
      exact go ⟨x.1, x.1.hw.map (·.1), x.2, az, [], []⟩ hs' _ hx hvx y hy hm.tail.right hq rfl rfl rfl rfl
structure CV where
  ex : Ex
  st : St
  vw : Views
  hs : Q5i
  az : List Ans
  owed : List Prop
  asked : Q7x
def Q4e (m : Nat) : IR → Q5i → List Ans → Views → St → Option CV
 | .skip, hs, az, vw, s => some ⟨.normal, s, vw, hs, az, [], []⟩
 | .reg ops draw, hs, az, vw, s => (Qqn s.nx 0 ops hs az s.env s.heap vw).bind fun y => bif !draw || calm (ops.zip y.effs) 0 (ops.zip y.effs) then some ⟨.normal, ⟨y.env, y.heap, s.nx + 64 * ops.length⟩, y.vw, y.hs, y.az, y.owed, y.asked⟩ else none
 | .seq a b, hs, az, vw, s => (Q4e m a hs az vw s).bind fun x => (match x.ex with | .normal => (Q4e m b x.hs x.az x.vw x.st).bind fun y => some ⟨y.ex, y.st, y.vw, y.hs, y.az, x.owed ++ y.owed, x.asked ++ y.asked⟩ | _ => some x)
 | .cond c a b, hs, az, vw, s => (match c.ev (envF s.env) with | .bool t => (bif t then Q4e m a hs az vw s else Q4e m b hs az vw s) | _ => none)
 | .block id b, hs, az, vw, s => (Q4e m b hs az vw s).bind fun x => (match x.ex with | .exit j => (bif Nat.beq j id then some ⟨.normal, x.st, x.vw, x.hs, x.az, x.owed, x.asked⟩ else some x) | _ => some x)
 | .loop live b, hs, az, vw, s => (gcV vw m live s).bind fun y => (match az with
  | [] => none
  | a :: az' => (match a.r with | .st e s' => some ⟨e, s', a.vw, hs, az', y.2 ++ (a.vw.map fun p => Seen (look s'.heap p.1) p.2), [(.loop m live b y.1.1 y.1.2, a.r)]⟩ | _ => none))
 | .exit id, hs, az, vw, s => some ⟨.exit id, s, vw, hs, az, [], []⟩
 | .ret, hs, az, vw, s => some ⟨.ret, s, vw, hs, az, [], []⟩
theorem Q1h {G : Nat → Option Fun} {m : Nat} : ∀ (c : IR) (hs : Q5i) (az : List Ans) (vw : Views) (s : St) (t : CV), Q4e m c hs az vw s = some t → VOK (look s.heap) vw → Met t.owed → Told G t.asked → Q2t (lim G) m c s = some (t.ex, t.st) ∧ VOK (look t.st.heap) t.vw
  | .skip, hs, az, vw, s, t, ht, hv, _, _ => by
    simp only [Q4e, Option.some.injEq] at ht
    subst ht
    exact ⟨rfl, hv⟩
  | .reg ops draw, hs, az, vw, s, t, ht, hv, hm, hq => by
    simp only [Q4e] at ht
    obtain ⟨y, hy, ht⟩ := Qf ht
    cases hc : (!draw || calm (ops.zip y.effs) 0 (ops.zip y.effs)) with
    | false => rw [hc] at ht; cases ht
    | true =>
      rw [hc] at ht
      simp only [cond_true, Option.some.injEq] at ht
      subst ht
      obtain ⟨r1, r2⟩ := Qf7 ops 0 hs az s.env s.heap vw y hy hv hm hq
      have h1 : ireg (lim G) ops draw s = some ⟨y.env, y.heap, s.nx + 64 * ops.length⟩ := by
        unfold ireg
        rw [r1, Option.bind_some]
        simp only
        rw [hc]
        rfl
      simp only [Q2t]
      rw [h1]
      exact ⟨rfl, r2⟩
  | .seq a b, hs, az, vw, s, t, ht, hv, hm, hq => by
    simp only [Q4e] at ht
    obtain ⟨x, hx, ht⟩ := Qf ht
    obtain ⟨ex, st, vw1, hs1, as1, ow1, ak1⟩ := x
    simp only [Q2t]
    cases ex with
    | normal =>
      simp only at ht
      obtain ⟨y, hy, ht⟩ := Qf ht
      simp only [Option.some.injEq] at ht
      subst ht
      obtain ⟨r1, r2⟩ := Q1h a hs az vw s _ hx hv hm.left hq.left
      rw [r1, Option.bind_some]
      exact Q1h b _ _ _ _ y hy r2 hm.right hq.right
    | exit j =>
      simp only [Option.some.injEq] at ht
      subst ht
      obtain ⟨r1, r2⟩ := Q1h a hs az vw s _ hx hv hm hq
      rw [r1, Option.bind_some]
      exact ⟨rfl, r2⟩
    | ret =>
      simp only [Option.some.injEq] at ht
      subst ht
      obtain ⟨r1, r2⟩ := Q1h a hs az vw s _ hx hv hm hq
      rw [r1, Option.bind_some]
      exact ⟨rfl, r2⟩
  | .cond c a b, hs, az, vw, s, t, ht, hv, hm, hq => by
    simp only [Q4e] at ht
    simp only [Q2t]
    split at ht
    · rename_i q hq'
      rw [hq']
      simp only
      cases q with
      | true => exact Q1h a hs az vw s t ht hv hm hq
      | false => exact Q1h b hs az vw s t ht hv hm hq
    · cases ht
  | .block id b, hs, az, vw, s, t, ht, hv, hm, hq => by
    simp only [Q4e] at ht
    obtain ⟨x, hx, ht⟩ := Qf ht
    obtain ⟨ex, st, vw1, hs1, as1, ow1, ak1⟩ := x
    simp only [Q2t]
    cases ex with
    | normal =>
      simp only [Option.some.injEq] at ht
      subst ht
      obtain ⟨r1, r2⟩ := Q1h b hs az vw s _ hx hv hm hq
      rw [r1, Option.bind_some]
      exact ⟨rfl, r2⟩
    | ret =>
      simp only [Option.some.injEq] at ht
      subst ht
      obtain ⟨r1, r2⟩ := Q1h b hs az vw s _ hx hv hm hq
      rw [r1, Option.bind_some]
      exact ⟨rfl, r2⟩
    | exit j =>
      simp only at ht
      cases hj : Nat.beq j id with
      | true =>
        rw [hj] at ht
        simp only [cond_true, Option.some.injEq] at ht
        subst ht
        obtain ⟨r1, r2⟩ := Q1h b hs az vw s _ hx hv hm hq
        rw [r1, Option.bind_some]
        simp only
        rw [hj]
        exact ⟨rfl, r2⟩
      | false =>
        rw [hj] at ht
        simp only [cond_false, Option.some.injEq] at ht
        subst ht
        obtain ⟨r1, r2⟩ := Q1h b hs az vw s _ hx hv hm hq
        rw [r1, Option.bind_some]
        simp only
        rw [hj]
        exact ⟨rfl, r2⟩
  | .loop live b, hs, az, vw, s, t, ht, hv, hm, hq => by
    simp only [Q4e] at ht
    obtain ⟨y, hy, ht⟩ := Qf ht
    simp only [Q2t]
    cases az with
    | nil => cases ht
    | cons a az' =>
      obtain ⟨r, avw⟩ := a
      cases r with
      | ret _ _ => cases ht
      | st e s' =>
        simp only [Option.some.injEq] at ht
        subst ht
        rw [Qqc hv hy hm.left, Option.bind_some, Q16f (hq _ List.mem_cons_self), Option.bind_some]
        refine ⟨rfl, fun id rows hl => ?_⟩
        exact hm.right _ (List.mem_map_of_mem (f := fun p : Nat × List (List PV) => Seen (look s'.heap p.1) p.2) (Qsb hl))
  | .exit id, hs, az, vw, s, t, ht, hv, _, _ => by
    simp only [Q4e, Option.some.injEq] at ht
    subst ht
    exact ⟨rfl, hv⟩
  | .ret, hs, az, vw, s, t, ht, hv, _, _ => by
    simp only [Q4e, Option.some.injEq] at ht
    subst ht
    exact ⟨rfl, hv⟩
def finV (fn : IFn) (m : Nat) (vw : Views) (s : St) : Option (Rs × List Prop) :=
 (mapO (rv s) fn.res).bind fun vs =>
  let a := bif fn.keep then Q2u s.nx vs else (vs, s.nx, [])
  let H := look (s.heap ++ a.2.2)
  (Q6t (Q8c H vw fn.keep 8) a.1 (upTo m)).bind fun y =>
   (Q6l H vw false true 32 0 y.1.2.1).bind fun z =>
    bif disj (y.1.2.2 ++ z.1.2.2) z.1.2.1 then some (.ret (match y.1.1 with | [v] => v | l => .tup l) (regr m z.1.1), y.2 ++ z.2) else none
theorem Qja {fn : IFn} {m : Nat} {vw : Views} {s : St} (hv : VOK (look s.heap) vw) {y : Rs × List Prop} (h : finV fn m vw s = some y) (hm : Met y.2) : fin fn m s = some y.1 := by
 unfold finV at h
 unfold fin
 obtain ⟨vs, hvs, h⟩ := Qf h
 rw [hvs, Option.bind_some]
 simp only at h ⊢
 have hv' : VOK (look (s.heap ++ (bif fn.keep then Q2u s.nx vs else (vs, s.nx, [])).2.2)) vw := by
  intro id rows hl
  obtain ⟨ob, hob, hok⟩ := hv id rows hl
  refine ⟨ob, ?_, hok⟩
  rw [Qmo, hob]
 obtain ⟨x, hx, h⟩ := Qf h
 obtain ⟨z, hz, h⟩ := Qf h
 cases hd : disj (x.1.2.2 ++ z.1.2.2) z.1.2.1 with
 | false => rw [hd] at h; cases h
 | true =>
  rw [hd] at h
  simp only [cond_true, Option.some.injEq] at h
  subst h
  rw [Q22 (Q52 hv' 8) _ _ x hx hm.left, Option.bind_some, Q2y hv' 32 _ _ z hz hm.right, Option.bind_some, hd]
  rfl
def Q17a (fn : IFn) (args : List PV) (h : List Ob) (vw : Views) (hs : Q5i) (az : List Ans) : Option (Rs × List Prop × Q7x) :=
 bif Nat.beq args.length fn.np then
  (Q4e h.length fn.body hs az vw ⟨args ++ nuns (fn.nt - fn.np), number 0 h, h.length⟩).bind fun x =>
   (match x.ex with
    | .exit _ => none
    | _ => (finV fn h.length x.vw x.st).bind fun r => some (r.1, x.owed ++ r.2, x.asked))
 else none
theorem Q180 {G : Nat → Option Fun} {f : Nat} {fn : IFn} (hG : G f = some (.ir fn)) {args : List PV} {h : List Ob} {vw : Views} (hv : VOK (look (number 0 h)) vw) {hs : Q5i} {az : List Ans} {r : Rs} {ow : List Prop} {ak : Q7x} (hp : Met ow) (hq : Told G ak) (ht : Q17a fn args h vw hs az = some (r, ow, ak)) : Q6 G (.call f args h) r := by
 refine Q131 Qcg ?_
 unfold Q17a at ht
 simp only [phi, hG]
 cases hl : Nat.beq args.length fn.np with
 | false => rw [hl] at ht; cases ht
 | true =>
  rw [hl] at ht
  simp only [cond_true] at ht ⊢
  obtain ⟨x, hx, ht⟩ := Qf ht
  obtain ⟨ex, st, vw1, hs1, as1, ow1, ak1⟩ := x
  cases ex with
  | exit j => cases ht
  | normal =>
   simp only at ht
   obtain ⟨r', hr, ht⟩ := Qf ht
   simp only [Option.some.injEq, Prod.mk.injEq] at ht
   obtain ⟨rfl, rfl, rfl⟩ := ht
   obtain ⟨r1, r2⟩ := Q1h _ hs az vw _ _ hx hv hp.left hq
   rw [r1, Option.bind_some]
   exact Qja r2 hr hp.right
  | ret =>
   simp only at ht
   obtain ⟨r', hr, ht⟩ := Qf ht
   simp only [Option.some.injEq, Prod.mk.injEq] at ht
   obtain ⟨rfl, rfl, rfl⟩ := ht
   obtain ⟨r1, r2⟩ := Q1h _ hs az vw _ _ hx hv hp.left hq
   rw [r1, Option.bind_some]
   exact Qja r2 hr hp.right
theorem VOK.nil {H : Nat → Option Ob} : VOK H [] := fun _ _ h => by cases h
def Q17k (m : Nat) (live : List Nat) (b : IR) (env : List PV) (h : List Ob) (vw : Views) (hs : Q5i) (az : List Ans) : Option ((List PV × List Ob) × List Prop × Q7x) :=
 (Q4e m b hs az vw ⟨env, number 0 h, h.length⟩).bind fun x => (match x.ex with | .normal => (gcV x.vw m live x.st).bind fun y => some (y.1, x.owed ++ y.2, x.asked) | _ => none)
theorem Qsr {G : Nat → Option Fun} {m : Nat} {live : List Nat} {b : IR} {env : List PV} {h : List Ob} {vw : Views} (hv : VOK (look (number 0 h)) vw) {hs : Q5i} {az : List Ans} {y : List PV × List Ob} {ow : List Prop} {ak : Q7x} {r : Rs} (hp : Met ow) (hq : Told G ak) (ht : Q17k m live b env h vw hs az = some (y, ow, ak)) (hr : Q6 G (.loop m live b y.1 y.2) r) : Q6 G (.loop m live b env h) r := by
 unfold Q17k at ht
 obtain ⟨x, hx, ht⟩ := Qf ht
 obtain ⟨ex, st, vw1, hs1, as1, ow1, ak1⟩ := x
 cases ex with
 | normal =>
  simp only at ht
  obtain ⟨y', hg, ht⟩ := Qf ht
  simp only [Option.some.injEq, Prod.mk.injEq] at ht
  obtain ⟨rfl, rfl, rfl⟩ := ht
  obtain ⟨r1, r2⟩ := Q1h _ hs az vw _ _ hx hv hp.left hq
  exact Qy9 Qcg r1 (Qqc r2 hg hp.right) hr
 | exit j => cases ht
 | ret => cases ht
def Q10v (m : Nat) (b : IR) (env : List PV) (h : List Ob) (vw : Views) (hs : Q5i) (az : List Ans) : Option ((Ex × St) × List Prop × Q7x) :=
 (Q4e m b hs az vw ⟨env, number 0 h, h.length⟩).bind fun x => (match x.ex with | .normal => none | e => some ((e, x.st), x.owed, x.asked))
theorem Qya {G : Nat → Option Fun} {m : Nat} {live : List Nat} {b : IR} {env : List PV} {h : List Ob} {vw : Views} (hv : VOK (look (number 0 h)) vw) {hs : Q5i} {az : List Ans} {x : Ex × St} {ow : List Prop} {ak : Q7x} (hp : Met ow) (hq : Told G ak) (ht : Q10v m b env h vw hs az = some (x, ow, ak)) : Q6 G (.loop m live b env h) (.st x.1 x.2) := by
 unfold Q10v at ht
 obtain ⟨y, hy, ht⟩ := Qf ht
 obtain ⟨ex, st, vw1, hs1, as1, ow1, ak1⟩ := y
 cases ex with
 | normal => cases ht
 | exit j =>
  simp only [Option.some.injEq, Prod.mk.injEq] at ht
  obtain ⟨rfl, rfl, rfl⟩ := ht
  exact Qfy Qcg (by intro h; cases h) (Q1h _ hs az vw _ _ hy hv hp hq).1
 | ret =>
  simp only [Option.some.injEq, Prod.mk.injEq] at ht
  obtain ⟨rfl, rfl, rfl⟩ := ht
  exact Qfy Qcg (by intro h; cases h) (Q1h _ hs az vw _ _ hy hv hp hq).1
end Go.Pv
end

section
/-
  Small words and hints' lemmas for walks that a program prints.
-/
namespace Go.Pv
def bE (b : Bool) : Eff := ⟨.bool b, [], []⟩
def vE (v : PV) : Eff := ⟨v, [], []⟩
def w64 (n : Int) : Int := IntKind.i64.wrap n
def mx (x y : Int) : Int := if y > x then y else x
def sEq (a b : ByteArray) : Bool := a.toList == b.toList
def sLt (a b : ByteArray) : Bool := Op.bytesLess a.toList b.toList
theorem dec (c v : Bool) (h : c = v) : some (bE c) = some (bE v) := by rw [h]
theorem toldOf {G : Nat → Option Fun} {e : En} {r r' : Rs} (h : Q6 G e r) (hr : r = r') : Q6 G e r' := hr ▸ h
theorem Q9 {α : Type} {f : α → List PV} {l : List α} {i : Nat} {x : α} (h : l[i]? = some x) : (l.map f)[i]? = some (f x) := by
 rw [List.getElem?_map, h]
 rfl
def ixE (sz : Nat) (l : List (List PV)) (i : Int) : Option Eff := (opP (fun _ => .un) (.iaddr sz (.c (.sl l)) (.c (.int .i64 i)))).bind fun v => some ⟨v, [], []⟩
theorem Q1f (sz : Nat) (l : List (List PV)) (i : Nat) (r : List PV) (h : l[i]? = some r) (hs : r.length = sz) : ixE sz l (i : Int) = some (vE (.rf r)) := by
 unfold ixE
 simp only [opP, Opd.ev, asNat]
 have h0 : decide (0 ≤ (i : Int)) = true := by simp
 rw [h0]
 simp only [cond_true, Option.bind_some, Int.toNat_natCast]
 rw [h]
 subst hs
 simp [vE]
theorem Q16e (sz : Nat) (l : List (List PV)) (i : Int) (r : List PV) (h0 : 0 ≤ i) (h : l[i.toNat]? = some r) (hs : r.length = sz) : ixE sz l i = some (vE (.rf r)) := by
 have := Q1f sz l i.toNat r h hs
 rw [show ((i.toNat : Nat) : Int) = i by omega] at this
 exact this
def lenE (l : List (List PV)) : Option Eff := some ⟨.int .i64 (l.length : Int), [], []⟩
theorem Qn (l : List (List PV)) (n : Nat) (h : l.length = n) : lenE l = some (vE (.int .i64 (n : Int))) := by
 unfold lenE
 rw [h]
 rfl
theorem Qrq {n : Int} (h : -9223372036854775808 ≤ n ∧ n ≤ 9223372036854775807) : w64 n = n := by
 unfold w64 IntKind.wrap
 simp [IntKind.signed, IntKind.bits]
 omega
def addE (a b : Int) : Option Eff := some ⟨.int .i64 (IntKind.i64.wrap (a + b)), [], []⟩
theorem Q1b (i : Nat) (h : i < 9223372036854775807) : addE (i : Int) 1 = some (vE (.int .i64 ((i + 1 : Nat) : Int))) := by
 unfold addE
 have : IntKind.i64.wrap ((i : Int) + 1) = ((i + 1 : Nat) : Int) := by
  have := Qrq (n := (i : Int) + 1) (by omega)
  unfold w64 at this
  rw [this]
  rfl
 rw [this]
 rfl
theorem Q16b {ob : Ob} {k : Nat} (h : ob.cells.length = k) : apC ob k = some ob.cells := by
 unfold apC
 rw [h, Nat.beq_refl]
 rfl
def apE (id lid fr sz bytes ro lro : Nat) (lgr : Bool) (rows : List (List PV)) (r : List PV) (n : Nat) : Option Eff :=
 Q2r (look [(id, ⟨sz, ro, true, rows.flatten⟩), (lid, ⟨sz, lro, lgr, r⟩)]) fr sz bytes (.ms id sz 0 n) (.ms lid sz 0 1)
theorem Q2w (id lid fr sz bytes ro lro : Nat) (lgr : Bool) (rows rows' : List (List PV)) (r : List PV) (n n' : Nat) (hne : Nat.beq id lid = false) (hn : n = rows.length) (hn' : n' = rows'.length) (hr' : rows' = rows ++ [r])
  (hs : ∀ r ∈ rows, r.length = sz) (hr : r.length = sz) (hb : (n + 1) * bytes ≤ 140737488355328) :
  apE id lid fr sz bytes ro lro lgr rows r n = some ⟨.ms fr sz 0 n', [(id, none), (fr, some ⟨sz, ro, true, rows'.flatten⟩)], [id, lid]⟩ := by
 subst hn hn' hr'
 unfold apE Q2r
 have h1 : look [(id, (⟨sz, ro, true, rows.flatten⟩ : Ob)), (lid, ⟨sz, lro, lgr, r⟩)] lid = some ⟨sz, lro, lgr, r⟩ := by simp [look, hne]
 have h2 : look [(id, (⟨sz, ro, true, rows.flatten⟩ : Ob)), (lid, ⟨sz, lro, lgr, r⟩)] id = some ⟨sz, ro, true, rows.flatten⟩ := by simp [look]
 have hsrc : source (look [(id, (⟨sz, ro, true, rows.flatten⟩ : Ob)), (lid, ⟨sz, lro, lgr, r⟩)]) sz (.ms lid sz 0 1) = some (1, r, [lid]) := by
  simp only [source, h1, Option.bind_some]
  subst hr
  have : Nat.ble r.length r.length = true := Nat.ble_eq_true_of_le (Nat.le_refl _)
  simp [this]
 rw [hsrc, Option.bind_some]
 simp only [h2, Option.bind_some]
 have hc : (true && Nat.beq sz sz && Nat.beq sz sz && Nat.beq 0 0 && Nat.ble ((rows.length + 1) * bytes) 140737488355328) = true := by
  simp only [Nat.beq_refl, Bool.and_true, Bool.true_and]
  exact Nat.ble_eq_true_of_le hb
 rw [hc, Q16b (ob := ⟨sz, ro, true, rows.flatten⟩) (Q44 sz rows hs)]
 simp
end Go.Pv
namespace Go.Pv
theorem VOK.cons {H : Nat → Option Ob} {vw : Views} {id : Nat} {rows : List (List PV)} (h : Seen (H id) rows) (hv : VOK H vw) : VOK H ((id, rows) :: vw) := by
 intro k rs hl
 simp only [look] at hl
 cases c : Nat.beq id k with
 | true =>
  have := Nat.eq_of_beq_eq_true c
  subst this
  rw [c] at hl
  simp only [cond_true, Option.some.injEq] at hl
  subst hl
  exact h
 | false =>
  rw [c] at hl
  exact hv k rs hl
theorem Qz {α : Type} {l : List α} {i : Nat} {x : α} {r : List α} (h : l.drop i = x :: r) : l[i]? = some x ∧ i < l.length ∧ l.drop (i + 1) = r := by
 have h1 : l[i]? = some x := by
  have := congrArg (fun q => q[0]?) h
  simpa [List.getElem?_drop] using this
 have h2 : i < l.length := (List.getElem?_eq_some_iff.1 h1).1
 refine ⟨h1, h2, ?_⟩
 rw [← List.tail_drop, h]
 rfl
theorem Q10 {α : Type} {l : List α} {i : Nat} (h : l.drop i = []) : l.length ≤ i := by
 simpa using h
theorem Q1q {α : Type} {l : List α} {i : Nat} {x : α} (h : l[i]? = some x) : x ∈ l := List.mem_of_getElem? h
theorem Qui (a b : ByteArray) (h : a.size + b.size ≤ 9223372036854775807) : ((sbin .add a b).bind fun v => some (⟨v, [], []⟩ : Eff)) = some (vE (.str (a ++ b))) := by
 simp only [sbin, Nat.ble_eq_true_of_le h, cond_true, Option.bind_some]
 rfl
def Q1i (l : List Int) : List (List PV) := l.map fun n => [.int .i64 n]
def Qj (l : List ByteArray) : List (List PV) := l.map fun n => [.str n]
theorem Q4r (l : List Int) : (Q1i l).length = l.length := by simp [Q1i]
theorem Q1k (l : List ByteArray) : (Qj l).length = l.length := by simp [Qj]
theorem Qjc {l : List Int} {i : Nat} {x : Int} (h : l[i]? = some x) : (Q1i l)[i]? = some [.int .i64 x] := Q9 (f := fun n => [.int .i64 n]) h
theorem Q7p {l : List ByteArray} {i : Nat} {x : ByteArray} (h : l[i]? = some x) : (Qj l)[i]? = some [.str x] := Q9 (f := fun n => [.str n]) h
theorem Qs7 (l : List Int) (x : Int) : Q1i (l ++ [x]) = Q1i l ++ [[.int .i64 x]] := by simp [Q1i]
theorem Qsq (l : List ByteArray) (x : ByteArray) : Qj (l ++ [x]) = Qj l ++ [[.str x]] := by simp [Qj]
theorem Q2h {α : Type} {f : α → List PV} {n : Nat} (h : ∀ x, (f x).length = n) (l : List α) : ∀ r ∈ l.map f, r.length = n := fun r hr => by
 obtain ⟨x, _, rfl⟩ := List.mem_map.1 hr
 exact h x
theorem Q20 {α : Type} {f : α → List PV} (h : ∀ x, (f x).all plain = true) (l : List α) : ∀ r ∈ l.map f, ∀ p ∈ r, plain p = true := fun r hr p hp => by
 obtain ⟨x, _, rfl⟩ := List.mem_map.1 hr
 exact List.all_eq_true.1 (h x) p hp
theorem Qf6 (l : List Int) : ∀ r ∈ Q1i l, r.length = 1 := Q2h (f := fun n => [.int .i64 n]) (fun _ => rfl) l
theorem Qfv (l : List ByteArray) : ∀ r ∈ Qj l, r.length = 1 := Q2h (f := fun n => [.str n]) (fun _ => rfl) l
theorem Q87 (l : List Int) (sz : Nat) (h : sz = 1) : ViewOK sz (Q1i l).flatten (Q1i l) := by subst h; exact ⟨rfl, Qf6 l, Q20 (f := fun n => [.int .i64 n]) (fun _ => rfl) l⟩
theorem Q5b (l : List ByteArray) (sz : Nat) (h : sz = 1) : ViewOK sz (Qj l).flatten (Qj l) := by subst h; exact ⟨rfl, Qfv l, Q20 (f := fun n => [.str n]) (fun _ => rfl) l⟩
end Go.Pv
namespace Go.Pv
def zoF (l : List (Nat × List PV)) (j : Nat) : List PV := (look l j).getD []
end Go.Pv
namespace Go.Pv
def optI : Option Int → Option Opd
 | none => none
 | some n => some (.c (.int .i64 n))
theorem Qrj {l : List (List PV)} {sz : Nat} (hs : ∀ r ∈ l, r.length = sz) : Q53 l sz = true := by
 unfold Q53
 rw [List.all_eq_true]
 intro r hr
 rw [hs r hr]
 exact Nat.beq_refl sz
end Go.Pv
namespace Go.Pv
def ixmE (id sz off len : Nat) (i : Int) : Option Eff := (opP (fun _ => .un) (.iaddr sz (.c (.ms id sz off len)) (.c (.int .i64 i)))).bind fun v => some ⟨v, [], []⟩
theorem Q1aq (id sz off len : Nat) (i : Int) (k at_ : Nat) (h : i = (k : Int)) (hk : k < len) (ha : at_ = (off + k) * sz) : ixmE id sz off len i = some (vE (.bx id at_)) := by
 subst h ha
 unfold ixmE
 simp only [opP, Opd.ev, asNat]
 have h0 : decide (0 ≤ (k : Int)) = true := by simp
 rw [h0]
 simp only [cond_true, Option.bind_some, Int.toNat_natCast]
 have h1 : (Nat.beq sz sz && Nat.blt k len) = true := by
  rw [Nat.beq_refl, Bool.true_and]
  exact Nat.ble_eq_true_of_le hk
 rw [h1]
 rfl
end Go.Pv
namespace Go.Pv
theorem Q2x (id sz len : Nat) (i : Int) (k : Nat) (hk : k = i.toNat) (h0 : 0 ≤ i) (h1 : i < (len : Int)) : ixmE id sz 0 len i = some (vE (.bx id (k * sz))) :=
 Q1aq id sz 0 len i k (k * sz) (by omega) (by omega) (by rw [Nat.zero_add])
theorem Q79 (sz : Nat) : ∀ (rows : List (List PV)) (k : Nat), (∀ r ∈ rows, r.length = sz) → rows.flatten.drop (k * sz) = (rows.drop k).flatten
 | [], k, _ => by simp
 | r :: rs, 0, _ => by simp
 | r :: rs, k + 1, h => by
  have h0 := h r List.mem_cons_self
  rw [List.flatten_cons, List.drop_succ_cons, ← Q79 sz rs k (fun q hq => h q (List.mem_cons_of_mem _ hq)), Nat.add_mul, Nat.one_mul, Nat.add_comm, ← List.drop_drop, List.drop_left' h0]
theorem Qx4 {sz : Nat} {rows : List (List PV)} {k : Nat} {r : List PV} {off n : Nat} (hr : rows[k]? = some r) (hs : ∀ r ∈ rows, r.length = sz) (hn : off + n ≤ sz) : (rows.flatten.drop (k * sz + off)).take n = (r.drop off).take n ∧ k * sz + off + n ≤ rows.flatten.length := by
  have hk : k < rows.length := (List.getElem?_eq_some_iff.1 hr).1
  have hd : rows.drop k = r :: rows.drop (k + 1) := by
    rw [List.drop_eq_getElem_cons hk]
    congr 1
    exact (List.getElem?_eq_some_iff.1 hr).2
  have hl := hs r (List.mem_of_getElem? hr)
  refine ⟨?_, ?_⟩
  · rw [← List.drop_drop, Q79 sz rows k hs, hd, List.flatten_cons]
    rw [List.drop_append_of_le_length (by omega), List.take_append_of_le_length (by rw [List.length_drop]; omega)]
  · rw [Q44 sz rows hs]
    have : (k + 1) * sz ≤ rows.length * sz := Nat.mul_le_mul_right _ hk
    rw [Nat.add_mul] at this
    omega
def ldE (id sz ro : Nat) (gr : Bool) (cells : List PV) (n : Nat) (ag : Bool) (at_ : Nat) : Option Eff := Qfh (look [(id, ⟨sz, ro, gr, cells⟩)]) n ag (.bx id at_)
theorem Q7r (id sz ro : Nat) (gr : Bool) (cells : List PV) (rows : List (List PV)) (n : Nat) (ag : Bool) (k off at_ : Nat) (r : List PV) (v : PV) (hc : cells = rows.flatten) (ha : at_ = k * sz + off) (hr : rows[k]? = some r) (hs : ∀ r ∈ rows, r.length = sz) (hn : off + n ≤ sz) (hv : shape ag ((r.drop off).take n) = some v) :
  ldE id sz ro gr cells n ag at_ = some ⟨v, [], [id]⟩ := by
 subst hc ha
 obtain ⟨h1, h2⟩ := Qx4 hr hs hn
 unfold ldE Qfh reads
 simp only [look, Nat.beq_refl, cond_true, Option.bind_some]
 rw [Nat.ble_eq_true_of_le h2]
 simp only [cond_true, Option.bind_some]
 rw [h1, hv, Option.bind_some]
theorem Q39 {α : Type} (l : List α) (k : Nat) (d : α) (h : k < l.length) : l[k]? = some (l.getD k d) := by
 rw [List.getD_eq_getElem?_getD, List.getElem?_eq_getElem h]
 rfl
end Go.Pv
namespace Go.Pv
end Go.Pv
namespace Go.Pv
end Go.Pv
end

section
/- More of single operations: sums that don't run over; shifts of indexes; stores into a slice of one's own that is known by its rows. -/
namespace Go.Pv
def wE (n : Int) : Option Eff := some ⟨.int .i64 (IntKind.i64.wrap n), [], []⟩
theorem w_ok (n : Int) (h : -9223372036854775808 ≤ n ∧ n ≤ 9223372036854775807) : wE n = some (vE (.int .i64 n)) := by
 unfold wE
 have := Qrq h
 unfold w64 at this
 rw [this]
 rfl
theorem beqT {x v : Bool} (h : (x == true) = v) : x = v := by cases x <;> cases v <;> simp_all
def sCmp (a b : ByteArray) : Int := cmpL a.toList b.toList
theorem Qf5 {sz : Nat} : ∀ (rows : List (List PV)) (k : Nat) (r vals : List PV) (off n : Nat), rows[k]? = some r → (∀ q ∈ rows, q.length = sz) → off + n ≤ sz → vals.length = n →
  rows.flatten.take (k * sz + off) ++ (vals ++ rows.flatten.drop (k * sz + off + n)) = (rows.set k (r.take off ++ (vals ++ r.drop (off + n)))).flatten ∧ k * sz + off + n ≤ rows.flatten.length
 | [], _, _, _, _, _, h, _, _, _ => by simp at h
 | q :: rs, 0, r, vals, off, n, h, hs, hn, hv => by
  have hq := hs q List.mem_cons_self
  simp only [List.getElem?_cons_zero, Option.some.injEq] at h
  subst h
  simp only [Nat.zero_mul, Nat.zero_add, List.flatten_cons, List.set_cons_zero, List.length_append]
  refine ⟨?_, by omega⟩
  rw [List.take_append_of_le_length (by omega), List.drop_append_of_le_length (by omega)]
  simp only [List.append_assoc]
 | q :: rs, k + 1, r, vals, off, n, h, hs, hn, hv => by
  have hq := hs q List.mem_cons_self
  simp only [List.getElem?_cons_succ] at h
  obtain ⟨h1, h2⟩ := Qf5 rs k r vals off n h (fun q hq => hs q (List.mem_cons_of_mem _ hq)) hn hv
  have e1 : (k + 1) * sz + off = q.length + (k * sz + off) := by rw [hq, Nat.add_mul]; omega
  have e2 : (k + 1) * sz + off + n = q.length + (k * sz + off + n) := by rw [hq, Nat.add_mul]; omega
  simp only [List.flatten_cons, List.set_cons_succ, List.length_append]
  refine ⟨?_, by omega⟩
  rw [e2, e1, List.take_length_add_append, List.drop_length_add_append, ← h1]
  simp only [List.append_assoc]
def stE (id sz ro : Nat) (gr : Bool) (cells : List PV) (n : Nat) (at_ : Nat) (x : PV) : Option Eff := Q89 (look [(id, ⟨sz, ro, gr, cells⟩)]) n (.bx id at_) x
theorem Q12o (id sz : Nat) (gr : Bool) (cells : List PV) (rows rows' : List (List PV)) (n k off at_ : Nat) (r : List PV) (x : PV) (hc : cells = rows.flatten) (ha : at_ = k * sz + off) (hr : rows[k]? = some r) (hs : ∀ r ∈ rows, r.length = sz) (hn : off + n ≤ sz) (hx : x.cs.length = n) (hf : x.fits = true) (hrows : rows' = rows.set k (r.take off ++ (x.cs ++ r.drop (off + n)))) :
  stE id sz 0 gr cells n at_ x = some ⟨.un, [(id, some ⟨sz, 0, gr, rows'.flatten⟩)], [id]⟩ := by
 subst hc ha hrows
 obtain ⟨h1, h2⟩ := Qf5 rows k r x.cs off n hr hs hn hx
 unfold stE Q89
 simp only [look, Nat.beq_refl, cond_true, Option.bind_some]
 rw [hx, hf, Nat.beq_refl, Nat.ble_eq_true_of_le h2, Nat.ble_eq_true_of_le (Nat.zero_le _), h1]
 rfl
theorem Q2i {α : Type} (f : α → List PV) (l : List α) (k : Nat) (x : α) : (l.set k x).map f = (l.map f).set k (f x) := List.map_set
theorem Q3s {α : Type} {l : List α} {n : Nat} (h : l.length = n) (k : Nat) (x : α) : (l.set k x).length = n := by rw [List.length_set, h]
end Go.Pv
end

section
/- A walk's hints and answers, each with its proof. -/
namespace Go.Pv
structure It where
  hint : Option (Nat × (Eff × Views))
  p : Prop
  pf : p
def hsOf : List It → Q5i
 | [] => []
 | x :: r => (match x.hint with | some h => h :: hsOf r | none => hsOf r)
def owOf : List It → List Prop
 | [] => []
 | x :: r => x.p :: owOf r
theorem Q159 : ∀ l : List It, Met (owOf l)
 | [] => Met.nil
 | x :: r => Met.cons x.pf (Q159 r)
structure An (G : Nat → Option Fun) where
  e : En
  r : Rs
  vw : Views
  pf : Q6 G e r
def asOf {G : Nat → Option Fun} : List (An G) → List Ans
 | [] => []
 | x :: r => ⟨x.r, x.vw⟩ :: asOf r
def akOf {G : Nat → Option Fun} : List (An G) → Q7x
 | [] => []
 | x :: r => (x.e, x.r) :: akOf r
theorem Qwn {G : Nat → Option Fun} : ∀ l : List (An G), Told G (akOf l)
 | [] => Told.nil
 | x :: r => Told.cons x.pf (Qwn r)
def hB {c v : Bool} (n : Nat) (h : c = v) : It := ⟨some (n, (bE v, [])), some (bE c) = some (bE v), dec c v h⟩
def hP {x : Option Eff} {y : Eff} (n : Nat) (h : x = some y) : It := ⟨some (n, (y, [])), x = some y, h⟩
def hV {x : Option Eff} {y : Eff} (n : Nat) (vw : Views) (h : x = some y) : It := ⟨some (n, (y, vw)), x = some y, h⟩
def hQ {p : Prop} (h : p) : It := ⟨none, p, h⟩
def aN {G : Nat → Option Fun} {e : En} {r : Rs} (h : Q6 G e r) : An G := ⟨e, r, [], h⟩
def aV {G : Nat → Option Fun} {e : En} {r : Rs} (vw : Views) (h : Q6 G e r) : An G := ⟨e, r, vw, h⟩
def aB {G : Nat → Option Fun} {e : En} {c v : Bool} (h : Q6 G e (.ret (.bool c) [])) (hc : c = v) : An G := ⟨e, .ret (.bool v) [], [], hc ▸ h⟩
theorem vk1 {sz ro : Nat} {gr : Bool} {cells : List PV} {rows : List (List PV)} (h : ViewOK sz cells rows) : VOK (look (number 0 [⟨sz, ro, gr, cells⟩])) [(0, rows)] := VOK.cons (show Seen _ _ from Q2f (ob := ⟨sz, ro, gr, cells⟩) h) VOK.nil
theorem Q8 {G : Nat → Option Fun} {f : Nat} {fn : IFn} (hG : G f = some (.ir fn)) {args : List PV} {h : List Ob} {vw : Views} (hv : VOK (look (number 0 h)) vw) {r : Rs} (l : List It) (q : List (An G)) (ht : Q17a fn args h vw (hsOf l) (asOf q) = some (r, owOf l, akOf q)) : Q6 G (.call f args h) r := Q180 hG hv (Q159 l) (Qwn q) ht
theorem Qb {G : Nat → Option Fun} {m : Nat} {live : List Nat} {b : IR} {env : List PV} {h : List Ob} {vw : Views} (hv : VOK (look (number 0 h)) vw) {y : List PV × List Ob} {r : Rs} (l : List It) (q : List (An G)) (ht : Q17k m live b env h vw (hsOf l) (asOf q) = some (y, owOf l, akOf q)) (hr : Q6 G (.loop m live b y.1 y.2) r) : Q6 G (.loop m live b env h) r := Qsr hv (Q159 l) (Qwn q) ht hr
theorem Qh {G : Nat → Option Fun} {m : Nat} {live : List Nat} {b : IR} {env : List PV} {h : List Ob} {vw : Views} (hv : VOK (look (number 0 h)) vw) {x : Ex × St} (l : List It) (q : List (An G)) (ht : Q10v m b env h vw (hsOf l) (asOf q) = some (x, owOf l, akOf q)) : Q6 G (.loop m live b env h) (.st x.1 x.2) := Qya hv (Q159 l) (Qwn q) ht
end Go.Pv
namespace Go.Pv
def hS {sz : Nat} {cells : List PV} {rows : List (List PV)} (ro : Nat) (gr : Bool) (h : ViewOK sz cells rows) : It := hQ (Q2f (ob := ⟨sz, ro, gr, cells⟩) h)
end Go.Pv
end

section
/-
  What a law is handed, as plain Lean values.
-/
namespace Go.Pv
def okI (k : IntKind) (n : Int) : Prop := (Lit.int k n).wf = true
def Q6k (n : Int) : Prop := -9223372036854775808 ≤ n ∧ n ≤ 9223372036854775807
def okU8 (n : Int) : Prop := 0 ≤ n ∧ n ≤ 255
theorem okI.i64 {n : Int} (h : okI .i64 n) : Q6k n := by
 unfold okI at h
 simp [Lit.wf, IntKind.min, IntKind.max, IntKind.signed, IntKind.bits] at h
 exact h
theorem okI.u8 {n : Int} (h : okI .u8 n) : okU8 n := by
 unfold okI at h
 simp [Lit.wf, IntKind.min, IntKind.max, IntKind.signed, IntKind.bits] at h
 unfold okU8
 omega
def okS (s : ByteArray) : Prop := s.size ≤ 140737488351232
def okL {α : Type} (bytes : Nat) (ok : α → Prop) (l : List α) : Prop := l.length * bytes ≤ 140737488351232 ∧ ∀ x ∈ l, ok x
section
variable {Γ : Nat → Option Ty}
theorem OfL.Q19 {f : Ty} {fs : List Ty} {c : List PV} (h : OfL Γ (f :: fs) c) : ∃ a b, c = a ++ b ∧ Of Γ f a ∧ OfL Γ fs b := by
 cases h with
 | cons _ _ a b h1 h2 => exact ⟨a, b, rfl, h1, h2⟩
theorem OfL.empty {c : List PV} (h : OfL Γ [] c) : c = [] := by cases h; rfl
theorem Of.str1 {c : List PV} (h : Of Γ .str c) : ∃ s, c = [.str s] ∧ okS s := by
 cases h with
 | str s h => exact ⟨s, rfl, h⟩
theorem Of.Q1dh {c : List PV} (h : Of Γ .bool c) : ∃ b, c = [.bool b] := by
 cases h with
 | bool b => exact ⟨b, rfl⟩
theorem Of.bool2 {c : List PV} (h : Of Γ .bool c) : ∃ b, c = [.bool b] ∧ True := by
 obtain ⟨b, hb⟩ := h.Q1dh
 exact ⟨b, hb, trivial⟩
theorem Of.int1 {k : IntKind} {c : List PV} (h : Of Γ (.int k) c) : ∃ n, c = [.int k n] ∧ okI k n := by
 cases h with
 | int _ n h => exact ⟨n, rfl, h⟩
theorem Of.i64 {c : List PV} (h : Of Γ (.int .i64) c) : ∃ n, c = [.int .i64 n] ∧ Q6k n := by
 obtain ⟨n, h1, h2⟩ := h.int1
 exact ⟨n, h1, h2.i64⟩
theorem Of.u8 {c : List PV} (h : Of Γ (.int .u8) c) : ∃ n, c = [.int .u8 n] ∧ okU8 n := by
 obtain ⟨n, h1, h2⟩ := h.int1
 exact ⟨n, h1, h2.u8⟩
theorem Of.st1 {fs : List Ty} {c : List PV} (h : Of Γ (.st fs) c) : OfL Γ fs c := by
 cases h with
 | st _ _ h => exact h
theorem Qex {α : Type} {f : α → List PV} {ok : α → Prop} : ∀ (l : List (List PV)), (∀ r ∈ l, ∃ x, r = f x ∧ ok x) → ∃ xs : List α, l = xs.map f ∧ ∀ x ∈ xs, ok x
  | [], _ => ⟨[], rfl, fun _ h => absurd h List.not_mem_nil⟩
  | r :: rs, h => by
    obtain ⟨x, hx, hok⟩ := h r List.mem_cons_self
    obtain ⟨xs, hxs, hoks⟩ := Qex rs (fun q hq => h q (List.mem_cons_of_mem _ hq))
    refine ⟨x :: xs, by rw [hx, hxs]; rfl, fun y hy => ?_⟩
    rcases List.mem_cons.1 hy with rfl | hy
    · exact hok
    · exact hoks y hy
theorem Of.sl1 {bytes : Nat} {e : Ty} {c : List PV} {α : Type} {f : α → List PV} {ok : α → Prop} (h : Of Γ (.sl bytes e) c) (he : ∀ r, Of Γ e r → ∃ x, r = f x ∧ ok x) : ∃ xs : List α, c = [.sl (xs.map f)] ∧ okL bytes ok xs := by
 cases h with
 | sl _ _ l h hl =>
  obtain ⟨xs, rfl, hok⟩ := Qex l (fun r hr => he r (hl r hr))
  exact ⟨xs, rfl, by simpa using h, hok⟩
theorem Arg.one {ty : Ty} {p : PV} (h : Arg Γ ty p) (hs : ty.isSt Γ = false) : Of Γ ty [p] := by
 obtain ⟨c, hc, hp⟩ := h
 rw [hs] at hp
 have hp : c = [p] := hp
 subst hp
 exact hc
theorem Arg.agg {ty : Ty} {p : PV} (h : Arg Γ ty p) (hs : ty.isSt Γ = true) : ∃ c, p = .agg c ∧ Of Γ ty c := by
 obtain ⟨c, hc, hp⟩ := h
 rw [hs] at hp
 exact ⟨c, hp, hc⟩
end
end Go.Pv
end

section
/-
  Strings: equality and order.
-/
namespace Go.Pv
theorem Qss (b : ByteArray) : ∀ (n i : Nat) (acc : List UInt8), b.size - i = n → ByteArray.toList.loop b i acc = acc.reverse ++ b.data.toList.drop i := by
 intro n
 induction n with
 | zero =>
  intro i acc h
  unfold ByteArray.toList.loop
  have h1 : ¬ i < b.size := by omega
  rw [if_neg h1]
  have : b.data.toList.drop i = [] := by
   rw [List.drop_eq_nil_iff]
   have : b.data.toList.length = b.size := Array.length_toList
   omega
  rw [this, List.append_nil]
 | succ n ih =>
  intro i acc h
  unfold ByteArray.toList.loop
  have h1 : i < b.size := by omega
  rw [if_pos h1, ih (i + 1) _ (by omega)]
  have hl : i < b.data.toList.length := by rw [show b.data.toList.length = b.size from Array.length_toList]; exact h1
  rw [List.drop_eq_getElem_cons hl, List.reverse_cons, List.append_assoc]
  congr 1
  simp only [List.singleton_append, List.cons.injEq, and_true]
  have : b.data.size = b.size := rfl
  simp [ByteArray.get!, h1, this]
theorem toList_data (b : ByteArray) : b.toList = b.data.toList := by
 unfold ByteArray.toList
 rw [Qss b _ 0 [] rfl]
 simp
theorem toList_inj {a b : ByteArray} (h : a.toList = b.toList) : a = b := by
 rw [toList_data, toList_data] at h
 cases a
 cases b
 simp at h
 rw [h]
theorem Q2o {a b : ByteArray} : sEq a b = true ↔ a = b := by
 unfold sEq
 rw [beq_iff_eq]
 exact ⟨toList_inj, fun h => by rw [h]⟩
mutual
inductive Val where
 | mk (kind n : Int) (s : ByteArray) (list : List Val) (fields : List Fld)
inductive Fld where
 | mk (name : ByteArray) (v : Val)
end
def Val.kind : Val → Int
 | .mk k _ _ _ _ => k
def Val.n : Val → Int
 | .mk _ n _ _ _ => n
def Val.s : Val → ByteArray
 | .mk _ _ s _ _ => s
def Val.list : Val → List Val
 | .mk _ _ _ l _ => l
def Val.fields : Val → List Fld
 | .mk _ _ _ _ f => f
def Fld.name : Fld → ByteArray
 | .mk n _ => n
def Fld.v : Fld → Val
 | .mk _ v => v
mutual
def Val.cs : Val → List PV
 | .mk k n s l f => [.int .i64 k, .int .i64 n, .str s, .sl (Val.css l), .sl (Fld.css f)]
def Val.css : List Val → List (List PV)
 | [] => []
 | v :: r => v.cs :: Val.css r
def Fld.css : List Fld → List (List PV)
 | [] => []
 | f :: r => f.cs :: Fld.css r
def Fld.cs : Fld → List PV
 | .mk n v => .str n :: v.cs
end
def Val.rows (l : List Val) : List (List PV) := Val.css l
def Fld.rows (l : List Fld) : List (List PV) := Fld.css l
def Val.cells (v : Val) : List PV := [.int .i64 v.kind, .int .i64 v.n, .str v.s, .sl (Val.rows v.list), .sl (Fld.rows v.fields)]
def Fld.cells (f : Fld) : List PV := [.str f.name, .int .i64 f.v.kind, .int .i64 f.v.n, .str f.v.s, .sl (Val.rows f.v.list), .sl (Fld.rows f.v.fields)]
theorem Val.Q17b (v : Val) : v.cs = v.cells := by cases v; rfl
theorem Fld.Q17b (f : Fld) : f.cs = f.cells := by
 cases f with
 | mk n v => cases v; rfl
theorem Val.Q1c : Val.rows [] = [] := rfl
theorem Fld.Q1c : Fld.rows [] = [] := rfl
theorem Val.Q12 (v : Val) (l : List Val) : Val.rows (v :: l) = v.cells :: Val.rows l := by
 rw [← Val.Q17b]
 rfl
theorem Fld.Q12 (v : Fld) (l : List Fld) : Fld.rows (v :: l) = v.cells :: Fld.rows l := by
 rw [← Fld.Q17b]
 rfl
theorem Val.Q2a : ∀ l : List Val, Val.rows l = l.map Val.cells
 | [] => rfl
 | v :: r => by rw [Val.Q12, Val.Q2a r]; rfl
theorem Fld.Q2a : ∀ l : List Fld, Fld.rows l = l.map Fld.cells
 | [] => rfl
 | v :: r => by rw [Fld.Q12, Fld.Q2a r]; rfl
theorem Val.Q5 (l : List Val) : (Val.rows l).length = l.length := by simp [Val.Q2a]
theorem Fld.Q5 (l : List Fld) : (Fld.rows l).length = l.length := by simp [Fld.Q2a]
theorem Val.Q9 {l : List Val} {i : Nat} {x : Val} (h : l[i]? = some x) : (Val.rows l)[i]? = some (Val.cells x) := by rw [Val.Q2a]; exact Go.Pv.Q9 h
theorem Fld.Q9 {l : List Fld} {i : Nat} {x : Fld} (h : l[i]? = some x) : (Fld.rows l)[i]? = some (Fld.cells x) := by rw [Fld.Q2a]; exact Go.Pv.Q9 h
theorem Val.Qv (l : List Val) (x : Val) : Val.rows (l ++ [x]) = Val.rows l ++ [Val.cells x] := by simp [Val.Q2a]
theorem Fld.Qv (l : List Fld) (x : Fld) : Fld.rows (l ++ [x]) = Fld.rows l ++ [Fld.cells x] := by simp [Fld.Q2a]
theorem Val.Q21 (l : List Val) (n : Nat) : Val.rows (l.take n) = (Val.rows l).take n := by simp [Val.Q2a, List.map_take]
theorem Fld.Q21 (l : List Fld) (n : Nat) : Fld.rows (l.take n) = (Fld.rows l).take n := by simp [Fld.Q2a, List.map_take]
theorem Val.Q25 (l : List Val) (n : Nat) : Val.rows (l.drop n) = (Val.rows l).drop n := by simp [Val.Q2a, List.map_drop]
theorem Fld.Q25 (l : List Fld) (n : Nat) : Fld.rows (l.drop n) = (Fld.rows l).drop n := by simp [Fld.Q2a, List.map_drop]
theorem Val.Q2n (l m : List Val) : Val.rows (l ++ m) = Val.rows l ++ Val.rows m := by simp [Val.Q2a]
theorem Fld.Q2n (l m : List Fld) : Fld.rows (l ++ m) = Fld.rows l ++ Fld.rows m := by simp [Fld.Q2a]
theorem Val.Qd (l : List Val) : ∀ r ∈ Val.rows l, r.length = 5 := by rw [Val.Q2a]; exact Q2h (f := Val.cells) (fun _ => rfl) l
theorem Fld.Qd (l : List Fld) : ∀ r ∈ Fld.rows l, r.length = 6 := by rw [Fld.Q2a]; exact Q2h (f := Fld.cells) (fun _ => rfl) l
theorem Val.Q7 (l : List Val) (sz : Nat) (h : sz = 5) : ViewOK sz (Val.rows l).flatten (Val.rows l) := by subst h; exact ⟨rfl, Val.Qd l, by rw [Val.Q2a]; exact Q20 (f := Val.cells) (fun _ => rfl) l⟩
theorem Fld.Q7 (l : List Fld) (sz : Nat) (h : sz = 6) : ViewOK sz (Fld.rows l).flatten (Fld.rows l) := by subst h; exact ⟨rfl, Fld.Qd l, by rw [Fld.Q2a]; exact Q20 (f := Fld.cells) (fun _ => rfl) l⟩
theorem Val.Qsd (v : Val) : SizeOf.sizeOf v.list < SizeOf.sizeOf v := by
 cases v with
 | mk k n s l f => simp only [Val.list, Val.mk.sizeOf_spec]; omega
theorem Val.Qff (v : Val) : SizeOf.sizeOf v.fields < SizeOf.sizeOf v := by
 cases v with
 | mk k n s l f => simp only [Val.fields, Val.mk.sizeOf_spec]; omega
theorem Fld.lt_v (f : Fld) : SizeOf.sizeOf f.v < SizeOf.sizeOf f := by
 cases f with
 | mk n v => simp only [Fld.v, Fld.mk.sizeOf_spec]; omega
theorem szL {v x : Val} {i : Nat} (h : v.list[i]? = some x) : SizeOf.sizeOf x < SizeOf.sizeOf v :=
 Nat.lt_trans (List.sizeOf_lt_of_mem (Q1q h)) v.Qsd
theorem szF {v : Val} {x : Fld} {i : Nat} (h : v.fields[i]? = some x) : SizeOf.sizeOf x.v < SizeOf.sizeOf v :=
 Nat.lt_trans x.lt_v (Nat.lt_trans (List.sizeOf_lt_of_mem (Q1q h)) v.Qff)
inductive Val.Sm (B : Nat) : Val → Prop
  | mk (v : Val) (hl : v.list.length ≤ B) (hf : v.fields.length ≤ B) (sl : ∀ x ∈ v.list, Val.Sm B x) (sf : ∀ x ∈ v.fields, Val.Sm B x.v) : Val.Sm B v
theorem Val.Sm.all {B : Nat} {v : Val} (h : Val.Sm B v) : v.list.length ≤ B ∧ v.fields.length ≤ B ∧ (∀ x ∈ v.list, Val.Sm B x) ∧ (∀ x ∈ v.fields, Val.Sm B x.v) := by
 cases h with
 | mk _ h1 h2 h3 h4 => exact ⟨h1, h2, h3, h4⟩
theorem Val.Sm.mono {B C : Nat} (hb : B ≤ C) {v : Val} (h : Val.Sm B v) : Val.Sm C v := by
 induction h with
 | mk v h1 h2 _ _ i1 i2 => exact .mk v (by omega) (by omega) i1 i2
theorem Val.Sm.leaf {B : Nat} (k n : Int) (s : ByteArray) : Val.Sm B (.mk k n s [] []) := .mk _ (Nat.zero_le _) (Nat.zero_le _) (fun _ h => by cases h) (fun _ h => by cases h)
theorem Val.Sm.getD {B : Nat} {l : List Val} (h : ∀ x ∈ l, Val.Sm B x) (i : Nat) (k n : Int) (s : ByteArray) : Val.Sm B (l.getD i (.mk k n s [] [])) := by
  by_cases c : i < l.length
  · have := Q39 l i (.mk k n s [] []) c
    exact h _ (Q1q this)
  · rw [List.getD_eq_getElem?_getD, List.getElem?_eq_none (by omega)]
    exact .leaf k n s
inductive Q90 : Val → Prop
  | mk (v : Val) (h1 : Q6k v.kind) (h2 : Q6k v.n) (h3 : okS v.s) (hl : v.list.length * 80 ≤ 140737488351232) (hf : v.fields.length * 96 ≤ 140737488351232) (sl : ∀ x ∈ v.list, Q90 x) (sn : ∀ x ∈ v.fields, okS x.name) (sf : ∀ x ∈ v.fields, Q90 x.v) : Q90 v
theorem Q90.all {v : Val} (h : Q90 v) : Q6k v.kind ∧ Q6k v.n ∧ okS v.s ∧ v.list.length * 80 ≤ 140737488351232 ∧ v.fields.length * 96 ≤ 140737488351232 ∧ (∀ x ∈ v.list, Q90 x) ∧ (∀ x ∈ v.fields, okS x.name ∧ Q90 x.v) := by
 cases h with
 | mk _ a b c d e f n g => exact ⟨a, b, c, d, e, f, fun x hx => ⟨n x hx, g x hx⟩⟩
theorem Q90.sm {v : Val} (h : Q90 v) : Val.Sm 4611686018427387904 v := by
 induction h with
 | mk v _ _ _ hl hf _ _ _ i1 i2 => exact .mk v (by omega) (by omega) i1 i2
def Que (t : Nat) : Ty := .st [.int .i64, .int .i64, .str, .sl 80 (.nm t), .sl 96 (.st [.str, .nm t])]
theorem Qsc {α : Type} [SizeOf α] (x : α) (r : List α) : SizeOf.sizeOf x < SizeOf.sizeOf (x :: r) := by
 simp only [List.cons.sizeOf_spec]
 omega
theorem Q111 {α : Type} [SizeOf α] (x : α) (r : List α) : SizeOf.sizeOf r < SizeOf.sizeOf (x :: r) := by
 simp only [List.cons.sizeOf_spec]
 omega
theorem Qvz (x : Fld) (r : List Fld) : SizeOf.sizeOf x.v < SizeOf.sizeOf (x :: r) := Nat.lt_trans x.lt_v (Qsc x r)
def gam (t : Nat) : Nat → Option Ty := fun k => bif Nat.beq k t then some (Que t) else none
theorem gam_tab {P : Program} {t : Nat} (h : Q86 P (gam t) (Que t) t = true) : TabOK P (gam t) := by
 intro k ty hk
 unfold gam at hk
 cases c : Nat.beq k t with
 | false => rw [c] at hk; cases hk
 | true =>
  rw [c] at hk
  simp only [cond_true, Option.some.injEq] at hk
  subst hk
  rw [Nat.eq_of_beq_eq_true c]
  exact ⟨rfl, h⟩
end Go.Pv
namespace Go.Pv
theorem Q6x {G : Nat → Option Fun} {e e' : En} {r : Rs} (h : Q6 G e r) (he : e = e') : Q6 G e' r := he ▸ h
end Go.Pv
end

section
/- Strings byte by byte; rows that are cloned. -/
namespace Go.Pv
theorem Qjn : ∀ p, plain p = true → bare p = true := fun p h => by cases p <;> first | rfl | (cases h)
theorem Q6o {G : Nat → Option Fun} {f sz bytes : Nat} (hG : G f = some (.ax (Qey sz bytes))) {rows : List (List PV)} {n : Nat} (hn : rows.length = n) (hv : ViewOK sz rows.flatten rows) (hb : n * bytes ≤ 140737488355328) :
  Q6 G (.call f [.sl rows] []) (.ret (.ms 0 sz 0 n) [⟨sz, 0, true, rows.flatten⟩]) := by
 refine ⟨1, ?_⟩
 subst hn
 simp only [runs, phi, hG, Qey]
 have h1 : Q53 rows sz = true := Qrj hv.size
 have h2 : rows.flatten.all bare = true := List.all_eq_true.2 fun p hp => Qjn p (hv.all p hp)
 rw [h1, h2, Nat.ble_eq_true_of_le hb]
 rfl
theorem Q5q {G : Nat → Option Fun} {f sz bytes : Nat} (hG : G f = some (.ax (Qez sz bytes))) {rows : List (List PV)} {n : Nat} (hn : rows.length = n) (hv : ViewOK sz rows.flatten rows) (hb : n * bytes ≤ 140737488355328) :
  Q6 G (.call f [.sl rows] []) (.ret (.sl rows) []) := by
 refine ⟨1, ?_⟩
 subst hn
 simp only [runs, phi, hG, Qez]
 have h1 : Q53 rows sz = true := Qrj hv.size
 have h2 : rows.flatten.all bare = true := List.all_eq_true.2 fun p hp => Qjn p (hv.all p hp)
 rw [h1, h2, Nat.ble_eq_true_of_le hb]
 rfl
end Go.Pv
namespace Go.Pv
theorem szM {v x : Val} (h : x ∈ v.list) : SizeOf.sizeOf x < SizeOf.sizeOf v := Nat.lt_trans (List.sizeOf_lt_of_mem h) v.Qsd
theorem szN {v : Val} {x : Fld} (h : x ∈ v.fields) : SizeOf.sizeOf x.v < SizeOf.sizeOf v := Nat.lt_trans x.lt_v (Nat.lt_trans (List.sizeOf_lt_of_mem h) v.Qff)
end Go.Pv
end

section
/- Arrays of bools, asked at an index of a loop. -/
namespace Go.Pv
def zr (z : Nat → PV) (i : Nat) : Nat → List PV
 | 0 => []
 | k + 1 => z i :: zr z (i + 1) k
end Go.Pv
end

section
/-
  What a law is handed, where its bulk is bounded: nothing within is longer.
-/
namespace Go.Pv
open Go.RowKit
inductive Cap (N : Nat) : PV → Prop
  | bool (b : Bool) : Cap N (.bool b)
  | int (k : IntKind) (n : Int) : Cap N (.int k n)
  | str (s : ByteArray) (h : s.size ≤ N) : Cap N (.str s)
  | sl (l : List (List PV)) (h : l.length ≤ N) (hl : ∀ r ∈ l, ∀ p ∈ r, Cap N p) : Cap N (.sl l)
def CapL (N : Nat) (c : List PV) : Prop := ∀ p ∈ c, Cap N p
theorem CapL.one {N : Nat} {p : PV} (h : Cap N p) : CapL N [p] := fun q hq => by
 rw [List.mem_singleton] at hq
 subst hq
 exact h
inductive CapD {H : Type} (N : Nat) : DataW H → Prop
  | lit (l : Lit) (h : ∀ b, l = .string b → b.length ≤ N) : CapD N (.lit l)
  | agg (parts : List (DataW H)) (h : ∀ d ∈ parts, CapD N d) : CapD N (.agg parts)
  | slice (elems spare : List (DataW H)) (h : elems.length ≤ N) (hl : ∀ d ∈ elems, CapD N d) : CapD N (.slice elems spare)
  | nil : CapD N .nil
  | ptr (d : DataW H) : CapD N (.ptr d)
  | iface (t : String) (d : DataW H) : CapD N (.iface t d)
  | map (e : List (Lit × DataW H)) : CapD N (.map e)
  | held (h : H) : CapD N (.held h)
def ArgB (Γ : Nat → Option Ty) (N : Nat) (ty : Ty) (p : PV) : Prop := ∃ c, Of Γ ty c ∧ CapL N c ∧ (bif ty.isSt Γ then p = .agg c else c = [p])
def Qyx (Γ : Nat → Option Ty) (N : Nat) : List Ty → List PV → Prop
 | [], [] => True
 | t :: ts, p :: ps => ArgB Γ N t p ∧ Qyx Γ N ts ps
 | _, _ => False
section
variable {H : Type} {enc : TypeId × Value → H} {P : Program} {w : World} {base : Nat} {sp : Nat → Bool} {held : Bool} {Γ : Nat → Option Ty} {N : Nat}
theorem Qan {n : Nat} {cs : List Value} (ih : ∀ (ty : Ty) (t : TypeId) (cs : List Value) (x : DataW H × List MemPlace), Q86 P Γ ty t = true → DataW.trod enc P w base sp held n t cs = some x → Light P t x.1 → CapD N x.1 → ∃ c, RepN w NoM NoD cs c ∧ Of Γ ty c ∧ CapL N c) :
  ∀ (fs : List Ty) (gs : List Field) (off : Nat) (ys : List (DataW H × List MemPlace)), Qq4 P Γ fs gs off cs.length = true → ys.length = gs.length → (∀ (j : Nat) g, gs[j]? = some g → DataW.trod enc P w base sp held n g.type ((cs.drop g.offset).take (P.cellsOf g.type)) = ys[j]?) →
   (∀ (j : Nat) g y, gs[j]? = some g → ys[j]? = some y → Light P g.type y.1 ∧ CapD N y.1) → ∃ c, RepN w NoM NoD (cs.drop off) c ∧ OfL Γ fs c ∧ CapL N c
 | [], [], off, ys, hc, _, _, _ => by
  simp only [Qq4] at hc
  have := Nat.eq_of_beq_eq_true hc
  refine ⟨[], ?_, .nil, fun p hp => absurd hp List.not_mem_nil⟩
  rw [this, List.drop_length]
  exact ⟨rfl, fun i v p h => by simp at h⟩
 | [], _ :: _, off, ys, hc, _, _, _ => by cases hc
 | _ :: _, [], off, ys, hc, _, _, _ => by cases hc
 | f :: fs, g :: gs, off, [], hc, hl, _, _ => by simp at hl
 | f :: fs, g :: gs, off, y :: ys, hc, hl, ht, hw => by
  simp only [Qq4, Bool.and_eq_true] at hc
  have ho := Nat.eq_of_beq_eq_true hc.1.1
  have h0 := ht 0 g rfl
  simp only [List.getElem?_cons_zero] at h0
  obtain ⟨a, ha, hoa, hca⟩ := ih f g.type _ y hc.1.2 h0 (hw 0 g y rfl rfl).1 (hw 0 g y rfl rfl).2
  obtain ⟨b, hb, hob, hcb⟩ := Qan ih fs gs (off + P.cellsOf g.type) ys hc.2 (by simpa using hl) (fun j g' hj => by have := ht (j + 1) g' (by simpa using hj); simpa using this) (fun j g' y' h1 h2 => hw (j + 1) g' y' (by simpa using h1) (by simpa using h2))
  refine ⟨a ++ b, ?_, .cons f fs a b hoa hob, fun p hp => (List.mem_append.1 hp).elim (hca p) (hcb p)⟩
  have : cs.drop off = (cs.drop off).take (P.cellsOf g.type) ++ cs.drop (off + P.cellsOf g.type) := by
   rw [← List.drop_drop]
   exact (List.take_append_drop _ _).symm
  rw [this]
  rw [ho] at ha
  exact ha.app hb
theorem Q15c (hΓ : TabOK P Γ) : ∀ (fuel : Nat) (ty : Ty) (t : TypeId) (cs : List Value) (x : DataW H × List MemPlace), Q86 P Γ ty t = true → DataW.trod enc P w base sp held fuel t cs = some x → Light P t x.1 → CapD N x.1 → ∃ c, RepN w NoM NoD cs c ∧ Of Γ ty c ∧ CapL N c := by
  intro fuel
  induction fuel with
  | zero => intro ty t cs x _ h; simp [DataW.trod] at h
  | succ n ih =>
    have core : ∀ (ty : Ty) (t : TypeId) (cs : List Value) (x : DataW H × List MemPlace), ty.named = false → Q86 P Γ ty t = true → DataW.trod enc P w base sp held (n + 1) t cs = some x → Light P t x.1 → CapD N x.1 → ∃ c, RepN w NoM NoD cs c ∧ Of Γ ty c ∧ CapL N c := by
      intro ty t cs x hn hc h hw hcd
      cases ty with
      | nm t' => cases hn
      | bool =>
        simp only [Q86] at hc
        obtain ⟨b, rfl, rfl⟩ := DataW.trod_bool (Q9b hc) h
        exact ⟨_, .one rfl (.bool _ _), .bool b, CapL.one (.bool b)⟩
      | int k =>
        simp only [Q86] at hc
        obtain ⟨m, rfl, rfl, hwf⟩ := DataW.trod_int (Qjd hc) h
        exact ⟨_, .one rfl (.int _ _ _), .int k m hwf, CapL.one (.int k m)⟩
      | str =>
        simp only [Q86] at hc
        obtain ⟨s, rfl, rfl, hs⟩ := DataW.trod_string (Q5j hc) h
        refine ⟨_, .one rfl (.str _ _), .str s ?_, CapL.one (.str s (by cases hcd with | lit _ h => simpa using h _ rfl))⟩
        simp only [Light, DataW.weights, List.all_cons, Bool.and_eq_true, decide_eq_true_eq] at hw
        have := hw.1
        unfold reachBytes at this
        simpa using this
      | sl bytes e =>
        simp only [Q86] at hc
        split at hc
        · rename_i te hu
          rw [Bool.and_eq_true, Bool.and_eq_true] at hc
          have hby := Nat.eq_of_beq_eq_true hc.1.1
          have hsz := Nat.le_of_ble_eq_true hc.1.2
          rcases DataW.trod_slice hu h with ⟨rfl, rfl⟩ | ⟨a, len, cap, elems, rest, n', hn', rfl, rfl, hb, hl, hm, hlen, hel, _, _⟩
          · refine ⟨[.sl []], .one rfl (.sl _ _ _ _ 0 [] 0 0 (fun _ _ => default) rfl (Nat.le_refl _) (Nat.zero_le _) (fun r hr => absurd hr List.not_mem_nil) (fun h => by omega) (fun j r hj => by simp at hj) (fun j r hj => by simp at hj)), .sl _ _ [] (by simp) (fun r hr => absurd hr List.not_mem_nil), CapL.one (.sl [] (Nat.zero_le _) (fun r hr => absurd hr List.not_mem_nil))⟩
          · have hnn : n' = n := by omega
            subst hnn
            simp only [Light, DataW.weights, hu, List.all_cons, List.all_append, Bool.and_eq_true, decide_eq_true_eq, List.length_map] at hw
            obtain ⟨hw1, hw2, _⟩ := hw
            have hlight := Q10x hw2
            have hcap : elems.length ≤ N ∧ ∀ z ∈ elems, CapD N z.1 := by
              cases hcd with
              | slice _ _ h1 h2 => exact ⟨by simpa using h1, fun z hz => h2 _ (List.mem_map.2 ⟨z, hz, rfl⟩)⟩
            have each : ∀ i, i < len → ∃ r, (∃ ys, w.cells? base (a.add (i * P.cellsOf te)) (P.cellsOf te) = some ys ∧ RepN w NoM NoD ys r) ∧ Of Γ e r ∧ CapL N r := by
              intro i hi
              have h1 := hel i hi
              have hi' : i < elems.length := by omega
              rw [List.getElem?_eq_getElem hi'] at h1
              obtain ⟨ys, hy1, hy2⟩ := Option.bind_eq_some_iff.1 h1
              obtain ⟨r, hr, hor⟩ := ih e te ys _ hc.2 hy2 (hlight _ (List.mem_map.2 ⟨_, List.getElem_mem hi', rfl⟩)) (hcap.2 _ (List.getElem_mem hi'))
              exact ⟨r, ⟨ys, hy1, hr⟩, hor⟩
            obtain ⟨l, hll, hlq⟩ := Qew len each
            have hcellsz : ∀ i ys, i < len → w.cells? base (a.add (i * P.cellsOf te)) (P.cellsOf te) = some ys → ys.length = P.cellsOf te ∧ ∀ j, j < P.cellsOf te → w.cell? ((a.add (i * P.cellsOf te)).add j) = ys[j]? := by
              intro i ys _ hy
              have := World.cells?_some hy
              exact ⟨this.2.1, this.2.2⟩
            have hspot : 0 < len → a = ⟨a.block, a.off, none⟩ := by
              intro hpos
              obtain ⟨r, ⟨ys, hy, hr⟩, _⟩ := each 0 hpos
              obtain ⟨hyl, hyc⟩ := hcellsz 0 ys hpos hy
              have h0 := hyc 0 (by omega)
              rw [List.getElem?_eq_getElem (by omega)] at h0
              simp only [Nat.zero_mul, Addr.add, if_true] at h0
              obtain ⟨b, o, s⟩ := a
              cases s with
              | none => rfl
              | some s =>
                simp only [World.cell?] at h0
                split at h0 <;> simp at h0
            have hadd : ∀ i j, 0 < len → (a.add (i * P.cellsOf te)).add j = ⟨a.block, a.off + i * P.cellsOf te + j, none⟩ := by
              intro i j hpos
              rw [hspot hpos]
              unfold Addr.add
              by_cases h1 : i * P.cellsOf te = 0 <;> by_cases h2 : j = 0 <;> simp [h1, h2]
            refine ⟨[.sl l], .one rfl (.sl _ (some a) len cap (P.cellsOf te) l a.block a.off (fun j i => (w.cell? ⟨a.block, a.off + j * P.cellsOf te + i, none⟩).getD default) hll hl hm ?_ (fun hp => congrArg some (hspot hp)) ?_ ?_), .sl bytes e l ?_ ?_, CapL.one (.sl l (by rw [hll]; omega) (fun r hr => by
              obtain ⟨i, hi⟩ := List.getElem?_of_mem hr
              exact (hlq i r hi).2.2))⟩
            · intro r hr
              obtain ⟨i, hi⟩ := List.getElem?_of_mem hr
              have hil := (List.getElem?_eq_some_iff.1 hi).1
              obtain ⟨⟨ys, hy, hrn⟩, _⟩ := hlq i r hi
              rw [← hrn.1]
              exact (hcellsz i ys (by omega) hy).1
            · intro j r hj i p hi
              have hjl := (List.getElem?_eq_some_iff.1 hj).1
              have hil := (List.getElem?_eq_some_iff.1 hi).1
              obtain ⟨⟨ys, hy, hrn⟩, _⟩ := hlq j r hj
              obtain ⟨hyl, hyc⟩ := hcellsz j ys (by omega) hy
              have hiy : i < ys.length := by rw [hrn.1]; exact hil
              have := hyc i (by omega)
              rw [hadd j i (by omega), List.getElem?_eq_getElem hiy] at this
              refine ⟨fun h => h, by rw [this]; rfl, ?_⟩
              rw [this]
              exact (hrn.2 i _ p (List.getElem?_eq_getElem hiy) hi).1
            · intro j r hj i p hi
              have hjl := (List.getElem?_eq_some_iff.1 hj).1
              have hil := (List.getElem?_eq_some_iff.1 hi).1
              obtain ⟨⟨ys, hy, hrn⟩, _⟩ := hlq j r hj
              obtain ⟨hyl, hyc⟩ := hcellsz j ys (by omega) hy
              have hiy : i < ys.length := by rw [hrn.1]; exact hil
              have := hyc i (by omega)
              rw [hadd j i (by omega), List.getElem?_eq_getElem hiy] at this
              rw [this]
              exact (hrn.2 i _ p (List.getElem?_eq_getElem hiy) hi).2
            · rw [← hby, hll]
              unfold reachBytes at hw1
              have : len * P.bytesOf te ≤ (elems.length + rest.length) * P.bytesOf te := Nat.mul_le_mul_right _ (by omega)
              omega
            · intro r hr
              obtain ⟨i, hi⟩ := List.getElem?_of_mem hr
              exact (hlq i r hi).2.1
        · cases hc
      | st fs =>
        simp only [Q86] at hc
        split at hc
        · rename_i gs hu
          obtain ⟨xs, n', hn', rfl, hl, hxl, hx⟩ := DataW.trod_struct hu h
          have hnn : n' = n := by omega
          subst hnn
          rw [← hl] at hc
          simp only [Light, DataW.weights, hu] at hw
          have hlight := Qxa hw
          have hcap : ∀ z ∈ xs, CapD N z.1 := by
            cases hcd with
            | agg _ h => exact fun z hz => h _ (List.mem_map.2 ⟨z, hz, rfl⟩)
          obtain ⟨c, hr, ho, hcc⟩ := Qan ih fs gs.toList 0 xs hc (by simpa using hxl) (fun j g hj => hx j g (by simpa using hj)) (fun j g y hj hy => ⟨hlight j g.type y.1 (by simp [hj]) (by simp [hy]), hcap y (List.mem_of_getElem? hy)⟩)
          exact ⟨c, by simpa using hr, .st fs c ho, hcc⟩
        · cases hc
    intro ty t cs x hc h hw hcd
    cases hty : ty.named with
    | false => exact core ty t cs x hty hc h hw hcd
    | true =>
      cases ty with
      | nm t' =>
        simp only [Q86, Bool.and_eq_true] at hc
        have := Nat.eq_of_beq_eq_true hc.1
        subst this
        obtain ⟨ty', hty'⟩ := Option.isSome_iff_exists.1 hc.2
        obtain ⟨h1, h2⟩ := hΓ _ _ hty'
        obtain ⟨c, hr, ho, hcc⟩ := core ty' t' cs x h1 h2 h hw hcd
        exact ⟨c, hr, .nm t' ty' c hty' ho, hcc⟩
      | _ => cases hty
theorem Q12c (hΓ : TabOK P Γ) {ty : Ty} {t : TypeId} (hc : Q86 P Γ ty t = true) (hs : (match P.underlying t with | some (.struct _) => ty.isSt Γ | some (.array _ _) => false | _ => !(ty.isSt Γ)) = true) {r : Reach} {b0 : Nat} {v : Value} {d : DataW H} {ps : List MemPlace} (hval : Value.okWide P w r b0 t v) (h : DataW.Trod enc P w base sp held t v d ps) (hw : Light P t d) (hcd : CapD N d) :
    ∃ p, Rep w NoM NoD v p ∧ ArgB Γ N ty p := by
  obtain ⟨fuel, hf⟩ := h
  obtain ⟨c, hr, ho, hcc⟩ := Q15c hΓ fuel ty t _ _ hc hf hw hcd
  unfold Value.okWide at hval
  split at hs
  · rename_i fs hu
    rw [hu] at hval
    obtain ⟨cs, rfl, _, _⟩ := hval
    refine ⟨.agg c, .agg _ cs c (by simpa [Value.cells] using hr.1) (fun i v p hv hp => (hr.2 i v p (by simpa [Value.cells] using hv) hp).1) (fun i v p hv hp => (hr.2 i v p (by simpa [Value.cells] using hv) hp).2), c, ho, hcc, ?_⟩
    rw [hs]
    rfl
  · cases hs
  · rename_i hn1 hn2
    have hcell : Cell.okWide P w r b0 t v := by
      split at hval
      · rename_i fs hu; exact absurd hu (hn1 fs)
      · rename_i k e hu; exact absurd hu (hn2 k e)
      · exact hval
    have hone : v.oneCell' = true := by
      cases v with
      | agg cs => unfold Cell.okWide Cell.ok at hcell; split at hcell <;> simp_all
      | tuple cs => unfold Cell.okWide Cell.ok at hcell; split at hcell <;> simp_all
      | _ => rfl
    have hcs : v.cells.toList = [v] := by cases v <;> first | rfl | (cases hone)
    rw [hcs] at hr
    have hlen := hr.1
    cases c with
    | nil => simp at hlen
    | cons p rest =>
      have : rest = [] := List.eq_nil_of_length_eq_zero (by simpa using hlen.symm)
      subst this
      refine ⟨p, (hr.2 0 v p rfl rfl).2, [p], ho, hcc, ?_⟩
      have : ty.isSt Γ = false := by simpa using hs
      rw [this]
      rfl
theorem open_args2 (hΓ : TabOK P Γ) {r : Reach} {b0 : Nat} : ∀ {tys : List Ty} {ts : List TypeId} {vs : List Value} {ds : List (DataW H)} {ps : List MemPlace}, chkArgs P Γ tys ts = true → (∀ (j : Nat) t v, ts[j]? = some t → vs[j]? = some v → Value.okWide P w r b0 t v) → DataW.TrodAll enc P w base sp held ts vs ds ps →
    (DataW.weightsEach P ts ds).all (· ≤ reachBytes) = true → (∀ d ∈ ds, CapD N d) → ∃ qs, RepL w NoM NoD vs qs ∧ Qyx Γ N tys qs
  | [], [], vs, ds, ps, _, _, h, _, _ => by
    obtain ⟨rfl, rfl, rfl⟩ := ChangeShapes.trodAll_nil h
    exact ⟨[], RepL.nil _ _ _, trivial⟩
  | [], _ :: _, _, _, _, hc, _, _, _, _ => by cases hc
  | _ :: _, [], _, _, _, hc, _, _, _, _ => by cases hc
  | ty :: tys, t :: ts, vs, ds, ps, hc, hv, h, hw, hcd => by
    simp only [chkArgs, Bool.and_eq_true] at hc
    obtain ⟨v, vs', d, ds', p, q, rfl, rfl, rfl, h1, h2⟩ := ChangeShapes.trodAll_cons h
    simp only [DataW.weightsEach, List.all_append, Bool.and_eq_true] at hw
    obtain ⟨x, hx, hax⟩ := Q12c hΓ hc.1.1.1.1 hc.1.1.1.2 (hv 0 t v rfl rfl) h1 hw.1 (hcd _ List.mem_cons_self)
    obtain ⟨qs, hq, haq⟩ := open_args2 hΓ hc.2 (fun j t' v' h1 h2 => hv (j + 1) t' v' (by simpa using h1) (by simpa using h2)) h2 hw.2 (fun d' hd' => hcd d' (List.mem_cons_of_mem _ hd'))
    exact ⟨x :: qs, RepL.cons hx hq, hax, haq⟩
end
theorem ArgB.one {Γ : Nat → Option Ty} {N : Nat} {ty : Ty} {p : PV} (h : ArgB Γ N ty p) (hs : ty.isSt Γ = false) : Of Γ ty [p] ∧ CapL N [p] := by
 obtain ⟨c, hc, hb, hp⟩ := h
 rw [hs] at hp
 have hp : c = [p] := hp
 subst hp
 exact ⟨hc, hb⟩
theorem ArgB.agg {Γ : Nat → Option Ty} {N : Nat} {ty : Ty} {p : PV} (h : ArgB Γ N ty p) (hs : ty.isSt Γ = true) : ∃ c, p = .agg c ∧ Of Γ ty c ∧ CapL N c := by
 obtain ⟨c, hc, hb, hp⟩ := h
 rw [hs] at hp
 exact ⟨c, hp, hc, hb⟩
theorem Cap.strI {N : Nat} {s : ByteArray} (h : Cap N (.str s)) : s.size ≤ N := by
 cases h with
 | str _ h => exact h
theorem Cap.slI {N : Nat} {l : List (List PV)} (h : Cap N (.sl l)) : l.length ≤ N ∧ ∀ r ∈ l, CapL N r := by
 cases h with
 | sl _ h hl => exact ⟨h, hl⟩
theorem Cap.Q8e {N : Nat} {α : Type} {f : α → List PV} {l : List α} (h : Cap N (.sl (l.map f))) : l.length ≤ N ∧ ∀ x ∈ l, CapL N (f x) := by
 obtain ⟨h1, h2⟩ := h.slI
 exact ⟨by simpa using h1, fun x hx => h2 _ (List.mem_map.2 ⟨x, hx, rfl⟩)⟩
theorem law_callsB {P : Program} {G : Nat → Option Fun} (hm : P.follows .mixedOrders = true) (hT : Tie P G) {Γ : Nat → Option Ty} {N : Nat} {tys : List Ty} {f : Nat} (hpure : ∀ qs, Qyx Γ N tys qs → ∃ n, runs G n (.call f qs []) = some (.ret (.bool true) []))
    {W : World} {args : Array Value} (h : ∃ qs, RepL W NoM NoD args.toList qs ∧ Qyx Γ N tys qs) : Calls P f args W fun e W' => e = .returned (.bool true) ∧ Below W.heap.size W W' := by
  obtain ⟨qs, hq, ha⟩ := h
  obtain ⟨n, hn⟩ := hpure qs ha
  obtain ⟨_, hok⟩ := (Qjr hm hT n).1 f qs [] _ _ hn
  have hnoM : ∀ b o, Mut NoD (hF []) NoM b o → NoM b o := by
    rintro b o (h | ⟨id, ob, h1, _⟩)
    · exact h
    · simp [hF] at h1
  refine (hok W NoD NoM args ⟨fun b o h => h.elim, Nat.le_refl _, fun id b h => (by cases h), fun id ob h => (by simp [hF] at h), fun i j a b k h => (by simp [hF] at h), fun id ob b o h => (by simp [hF] at h)⟩ (fun _ _ => rfl) (hq.mono fun v p h => h.to (fun b o _ h => hnoM b o h) (fun _ _ h => h))).mono ?_
  rintro e W' ⟨v, D', rfl, _, hk, _, _, _, _, hr⟩
  cases hr with
  | bool _ _ =>
    refine ⟨rfl, (hk.mono (M1 := fun _ _ => False) ?_).below⟩
    rintro b o _ ⟨id, ob, h1, _⟩
    simp [hF] at h1
end Go.Pv
end

section
/- Comparisons that answer -1, 0 or 1; the order of strings. -/
namespace Go.Pv
def R3 (a : Int) : Prop := a = -1 ∨ a = 0 ∨ a = 1
def T3 (a b e : Int) : Prop := (a = 0 → e = b) ∧ (b = 0 → e = a) ∧ (a = b → e = a)
def lx (a b : Int) : Int := if a = 0 then b else a
def icmp (a b : Int) : Int := if a < b then -1 else if b < a then 1 else 0
theorem Q1as (a b : Int) : lx (-a) (-b) = -lx a b := by
 unfold lx
 split <;> split <;> omega
theorem Q1g6 {a b e a' b' e' : Int} (_ha : R3 a) (_hb : R3 b) (_he : R3 e) (t : T3 a b e) (t' : T3 a' b' e') : T3 (lx a a') (lx b b') (lx e e') := by
 unfold T3 at *
 unfold lx R3 at *
 split <;> split <;> split <;> omega
theorem Qs6 (a b : Int) : R3 (icmp a b) := by
  unfold icmp R3
  split
  · omega
  · split <;> omega
theorem Q153 (a b : Int) : icmp b a = -icmp a b := by
 unfold icmp
 split <;> split <;> first | omega | (split <;> omega) | skip
 all_goals omega
theorem Q17h (a b e : Int) : T3 (icmp a b) (icmp b e) (icmp a e) := by
 unfold T3 icmp
 split <;> split <;> split <;> (try split) <;> (try split) <;> (try split) <;> omega
theorem Q10k {a b : Int} : icmp a b = 0 ↔ a = b := by
  unfold icmp
  constructor
  · intro h
    split at h
    · omega
    · split at h <;> omega
  · intro h
    rw [if_neg (by omega), if_neg (by omega)]
theorem Qs0 : ∀ a b : List UInt8, R3 (cmpL a b)
  | [], [] => Or.inr (Or.inl rfl)
  | [], _ :: _ => Or.inl rfl
  | _ :: _, [] => Or.inr (Or.inr rfl)
  | x :: a, y :: b => by
    rw [cmpL]
    split
    · exact Or.inl rfl
    · split
      · exact Or.inr (Or.inr rfl)
      · exact Qs0 a b
theorem Q62 (x y : UInt8) (a b : List UInt8) : cmpL (x :: a) (y :: b) = lx (icmp (x.toNat : Int) (y.toNat : Int)) (cmpL a b) := by
  rw [cmpL]
  unfold lx icmp
  simp only [UInt8.lt_iff_toNat_lt]
  by_cases h1 : x.toNat < y.toNat
  · rw [if_pos h1, if_pos (show (x.toNat : Int) < (y.toNat : Int) by omega)]
    rfl
  · by_cases h2 : y.toNat < x.toNat
    · rw [if_neg h1, if_pos h2, if_neg (show ¬ (x.toNat : Int) < (y.toNat : Int) by omega), if_pos (show (y.toNat : Int) < (x.toNat : Int) by omega)]
      rfl
    · rw [if_neg h1, if_neg h2, if_neg (show ¬ (x.toNat : Int) < (y.toNat : Int) by omega), if_neg (show ¬ (y.toNat : Int) < (x.toNat : Int) by omega)]
      rfl
theorem Qmc : ∀ a b : List UInt8, cmpL b a = -cmpL a b
 | [], [] => rfl
 | [], _ :: _ => rfl
 | _ :: _, [] => rfl
 | x :: a, y :: b => by rw [Q62, Q62, Qmc a b, Q153 (x.toNat : Int) (y.toNat : Int), Q1as]
theorem Qzv : ∀ a b d : List UInt8, T3 (cmpL a b) (cmpL b d) (cmpL a d)
 | [], [], [] => by simp [T3, cmpL]
 | [], [], _ :: _ => by simp [T3, cmpL]
 | [], _ :: _, [] => by simp [T3, cmpL]
 | [], _ :: _, _ :: _ => by simp [T3, cmpL]
 | _ :: _, [], [] => by simp [T3, cmpL]
 | _ :: _, [], _ :: _ => by simp [T3, cmpL]
 | x :: a, y :: b, [] => by
  have h := Qs0 (x :: a) (y :: b)
  unfold R3 at h
  unfold T3
  rw [show cmpL (y :: b) [] = 1 from rfl, show cmpL (x :: a) [] = 1 from rfl]
  omega
 | x :: a, y :: b, w :: d => by
  rw [Q62, Q62, Q62]
  exact Q1g6 (Qs6 _ _) (Qs6 _ _) (Qs6 _ _) (Q17h _ _ _) (Qzv a b d)
theorem Qq6 : ∀ a b : List UInt8, cmpL a b = 0 → a = b
  | [], [], _ => rfl
  | [], _ :: _, h => by simp [cmpL] at h
  | _ :: _, [], h => by simp [cmpL] at h
  | x :: a, y :: b, h => by
    rw [Q62] at h
    unfold lx at h
    split at h
    · rename_i e
      have := Q10k.1 e
      rw [UInt8.toNat_inj.1 (show x.toNat = y.toNat by omega), Qq6 a b h]
    · omega
theorem Qzu (a : List UInt8) : cmpL a a = 0 := by
 have := Qmc a a
 omega
theorem Qv9 : ∀ a b : List UInt8, Op.bytesLess a b = decide (cmpL a b < 0)
  | [], [] => rfl
  | [], _ :: _ => rfl
  | _ :: _, [] => rfl
  | x :: a, y :: b => by
    have ih := Qv9 a b
    rw [Op.bytesLess, cmpL, ih]
    by_cases h : x < y
    · simp [h]
    · by_cases h2 : y < x
      · have h3 : ¬ x = y := fun e => h (e ▸ h2)
        simp [h, h2, h3]
      · have h3 : x = y := by
          rw [UInt8.lt_iff_toNat_lt] at h h2
          exact UInt8.toNat_inj.1 (by omega)
        simp [h3]
theorem Qsl (a b : ByteArray) : R3 (sCmp a b) := Qs0 _ _
theorem Q5o (a b : ByteArray) : sCmp b a = -sCmp a b := Qmc _ _
theorem Q17s (a b d : ByteArray) : T3 (sCmp a b) (sCmp b d) (sCmp a d) := Qzv _ _ _
theorem Qrl {a b : ByteArray} : sCmp a b = 0 ↔ a = b := ⟨fun h => toList_inj (Qq6 _ _ h), fun h => by rw [h]; exact Qzu _⟩
theorem Q17t (a b : ByteArray) : sLt a b = decide (sCmp a b < 0) := Qv9 _ _
end Go.Pv
end

section
/- The library's stable sort as plain functions on lists, and what it answers: the stably sorted list. Program-free. -/
namespace Go.Pv.Srt
section
variable {α : Type} (z : α) (c : α → α → Int)
def gt (d : List α) (i : Int) : α := d.getD i.toNat z
def sw (d : List α) (i j : Int) : List α := (d.set i.toNat (gt z d j)).set j.toNat (gt z d i)
def ins1 (a : Int) : Nat → List α → Int → List α
 | 0, v, _ => v
 | k + 1, v, j => bif decide (a < j) then (bif decide (c (gt z v j) (gt z v (j - 1)) < 0) then ins1 a k (sw z v j (j - 1)) (j - 1) else v) else v
def ins0 (a b : Int) : Nat → Int → List α → List α
 | 0, _, v => v
 | k + 1, i, v => bif decide (i < b) then ins0 a b k (i + 1) (ins1 z c a (i.toNat + 1) v i) else v
def ins (d : List α) (a b : Int) : List α := ins0 z c a b ((b - (a + 1)).toNat + 1) (a + 1) d
theorem Q151 {d A C : List α} {x : α} {i : Int} (hd : d = A ++ x :: C) (hi : i = (A.length : Int)) : gt z d i = x := by
 subst hd hi
 simp [gt]
theorem Q16j {A C : List α} {x y : α} {i : Int} (hi : i = (A.length : Int)) : (A ++ x :: C).set i.toNat y = A ++ y :: C := by
 subst hi
 simp
theorem Q17v {A M C : List α} {x y : α} {i j : Int} (hi : i = (A.length : Int)) (hj : j = (A.length : Int) + 1 + (M.length : Int)) : sw z (A ++ x :: (M ++ y :: C)) j i = A ++ y :: (M ++ x :: C) := by
 have e1 : gt z (A ++ x :: (M ++ y :: C)) i = x := Q151 z rfl hi
 have e2 : gt z (A ++ x :: (M ++ y :: C)) j = y := Q151 z (A := A ++ x :: M) (C := C) (by simp) (by simp; omega)
 unfold sw
 rw [e1, e2]
 have e3 : A ++ x :: (M ++ y :: C) = (A ++ x :: M) ++ y :: C := by simp
 rw [e3, Q16j (A := A ++ x :: M) (by simp; omega)]
 have e4 : (A ++ x :: M) ++ x :: C = A ++ x :: (M ++ x :: C) := by simp
 rw [e4, Q16j hi]
def insR (x : α) : List α → List α
 | [] => [x]
 | s :: t => bif decide (c x s < 0) then s :: insR x t else x :: s :: t
def Qa4 (l : List α) : List α := (l.foldl (fun r x => insR c x r) []).reverse
theorem Qqm (a : Int) (A : List α) (x : α) (ha : a = (A.length : Int)) : ∀ (R C : List α) (k : Nat) (j : Int), j = (A.length : Int) + (R.length : Int) → R.length < k → ins1 z c a k (A ++ (R.reverse ++ x :: C)) j = A ++ ((insR c x R).reverse ++ C)
 | _, _, 0, _, _, h => absurd h (Nat.not_lt_zero _)
 | [], C, k + 1, j, hj, _ => by
  rw [ins1, show decide (a < j) = false by simp at hj ⊢; omega]
  simp [insR]
 | s :: t, C, k + 1, j, hj, hk => by
  simp only [List.length_cons] at hj hk
  have e0 : A ++ ((s :: t).reverse ++ x :: C) = (A ++ t.reverse) ++ s :: ([] ++ x :: C) := by simp
  rw [ins1, show decide (a < j) = true by simp; omega, cond_true, e0]
  have e1 : gt z ((A ++ t.reverse) ++ s :: ([] ++ x :: C)) j = x := Q151 z (A := A ++ t.reverse ++ [s]) (C := C) (by simp) (by simp; omega)
  have e2 : gt z ((A ++ t.reverse) ++ s :: ([] ++ x :: C)) (j - 1) = s := Q151 z (A := A ++ t.reverse) rfl (by simp; omega)
  rw [e1, e2, insR]
  cases decide (c x s < 0) with
  | true =>
   rw [cond_true, cond_true, Q17v z (by simp; omega) (by simp; omega)]
   have e3 : (A ++ t.reverse) ++ x :: ([] ++ s :: C) = A ++ (t.reverse ++ x :: (s :: C)) := by simp
   rw [e3, Qqm a A x ha t (s :: C) k (j - 1) (by omega) (by omega)]
   simp
  | false => simp
theorem Qql (a b : Int) (A : List α) (ha : a = (A.length : Int)) : ∀ (M R C : List α) (k : Nat) (i : Int), i = (A.length : Int) + (R.length : Int) → b = i + (M.length : Int) → M.length < k →
  ins0 z c a b k i (A ++ (R.reverse ++ (M ++ C))) = A ++ ((M.foldl (fun r x => insR c x r) R).reverse ++ C)
 | _, _, _, 0, _, _, _, h => absurd h (Nat.not_lt_zero _)
 | [], R, C, k + 1, i, hi, hb, _ => by
  rw [ins0, show decide (i < b) = false by simp at hb ⊢; omega]
  simp
 | x :: M, R, C, k + 1, i, hi, hb, hk => by
  simp only [List.length_cons] at hb hk
  rw [ins0, show decide (i < b) = true by simp; omega, cond_true, List.cons_append, Qqm z c a A x ha R (M ++ C) _ i hi (by omega)]
  have hl : (insR c x R).length = R.length + 1 := by
   clear hi hb hk
   induction R with
   | nil => rfl
   | cons s t ih => rw [insR]; cases decide (c x s < 0) <;> simp [ih]
  rw [Qql a b A ha M (insR c x R) C k (i + 1) (by omega) (by omega) (by omega)]
  rfl
theorem Qmm {d A M C : List α} {a b : Int} (hd : d = A ++ (M ++ C)) (ha : a = (A.length : Int)) (hb : b = a + (M.length : Int)) : ins z c d a b = A ++ (Qa4 c M ++ C) := by
 subst hd
 unfold ins Qa4
 cases M with
 | nil =>
  simp only [List.length_nil, Int.ofNat_zero] at hb
  rw [ins0, show decide (a + 1 < b) = false by simp; omega]
  rfl
 | cons x M =>
  simp only [List.length_cons] at hb
  have e : A ++ (x :: M ++ C) = A ++ ([x].reverse ++ (M ++ C)) := by simp
  rw [e, Qql z c a b A ha M [x] C _ _ (by simp; omega) (by omega) (by omega)]
  rfl
end
end Go.Pv.Srt
end

section
/- The library's stable sort: its merging, and that it answers the stably sorted list. Program-free. -/
namespace Go.Pv.Srt
section
variable {α : Type} (z : α) (c : α → α → Int)
structure Tot : Prop where
  asym : ∀ x y, c x y < 0 → ¬ c y x < 0
  tr : ∀ x y w, ¬ c y x < 0 → ¬ c w y < 0 → ¬ c w x < 0
def le (x y : α) : Prop := ¬ c y x < 0
def Up (l : List α) : Prop := l.Pairwise (le c)
def eqv (x y : α) : Bool := decide (¬ c x y < 0) && decide (¬ c y x < 0)
def F (l r : List α) : Prop := l.length = r.length ∧ ∀ x, l.filter (eqv c x) = r.filter (eqv c x)
variable {c}
theorem F.rfl {l : List α} : F c l l := ⟨Eq.refl _, fun _ => Eq.refl _⟩
theorem F.trans {l r s : List α} (h : F c l r) (g : F c r s) : F c l s := ⟨h.1.trans g.1, fun x => (h.2 x).trans (g.2 x)⟩
theorem F.symm {l r : List α} (h : F c l r) : F c r l := ⟨h.1.symm, fun x => (h.2 x).symm⟩
theorem F.app {l r l' r' : List α} (h : F c l r) (g : F c l' r') : F c (l ++ l') (r ++ r') :=
 ⟨by rw [List.length_append, List.length_append, h.1, g.1], fun x => by rw [List.filter_append, List.filter_append, h.2 x, g.2 x]⟩
theorem Tot.refl (T : Tot c) (x : α) : ¬ c x x < 0 := fun h => T.asym x x h h
theorem F.swap (T : Tot c) {A B : List α} (h : ∀ a ∈ A, ∀ b ∈ B, c b a < 0) : F c (A ++ B) (B ++ A) := by
  refine ⟨by simp [Nat.add_comm], fun x => ?_⟩
  rw [List.filter_append, List.filter_append]
  by_cases hA : A.filter (eqv c x) = []
  · rw [hA]
    simp
  · have hB : B.filter (eqv c x) = [] := by
      obtain ⟨a, ha⟩ := List.exists_mem_of_ne_nil _ hA
      obtain ⟨ha, hxa⟩ := List.mem_filter.1 ha
      refine List.filter_eq_nil_iff.2 fun b hb hxb => ?_
      simp only [eqv, Bool.and_eq_true, decide_eq_true_eq] at hxa hxb
      exact T.tr a x b hxa.1 hxb.2 (h a ha b hb)
    rw [hB]
    simp
theorem Qv2 {x y : α} : ∀ {R : List α}, y ∈ insR c x R → y = x ∨ y ∈ R
  | [], h => by simpa [insR] using h
  | s :: t, h => by
    rw [insR] at h
    cases hd : decide (c x s < 0) with
    | true =>
      rw [hd, cond_true] at h
      rcases List.mem_cons.1 h with e | e
      · exact Or.inr (by simp [e])
      · rcases Qv2 e with e | e
        · exact Or.inl e
        · exact Or.inr (List.mem_cons_of_mem _ e)
    | false =>
      rw [hd, cond_false] at h
      rcases List.mem_cons.1 h with e | e
      · exact Or.inl e
      · exact Or.inr e
theorem Q10l (T : Tot c) (x : α) : ∀ {R : List α}, R.Pairwise (fun a b => le c b a) → (insR c x R).Pairwise (fun a b => le c b a)
  | [], _ => by simp [insR]
  | s :: t, h => by
    have h' := List.pairwise_cons.1 h
    rw [insR]
    by_cases hd : c x s < 0
    · rw [show decide (c x s < 0) = true by simpa using hd, cond_true]
      refine List.pairwise_cons.2 ⟨fun y hy => ?_, Q10l T x h'.2⟩
      rcases Qv2 hy with e | e
      · subst e
        exact T.asym _ _ hd
      · exact h'.1 y e
    · rw [show decide (c x s < 0) = false by simpa using hd, cond_false]
      refine List.pairwise_cons.2 ⟨fun y hy => ?_, h⟩
      rcases List.mem_cons.1 hy with e | e
      · subst e
        exact hd
      · exact T.tr y s x (h'.1 y e) hd
theorem Q16d (T : Tot c) (x : α) : ∀ (R : List α), F c (R.reverse ++ [x]) (insR c x R).reverse
  | [] => F.rfl
  | s :: t => by
    rw [insR]
    by_cases hd : c x s < 0
    · rw [show decide (c x s < 0) = true by simpa using hd, cond_true, List.reverse_cons, List.reverse_cons, List.append_assoc]
      have h1 : F c ([s] ++ [x]) ([x] ++ [s]) := F.swap T (by simpa using hd)
      exact (F.rfl.app h1).trans (by rw [← List.append_assoc]; exact (Q16d T x t).app F.rfl)
    · rw [show decide (c x s < 0) = false by simpa using hd, cond_false, List.reverse_cons (a := x)]
      exact F.rfl
theorem Qs3 (T : Tot c) : ∀ (M R : List α), R.Pairwise (fun a b => le c b a) → (M.foldl (fun r x => insR c x r) R).Pairwise (fun a b => le c b a) ∧ F c (R.reverse ++ M) (M.foldl (fun r x => insR c x r) R).reverse
 | [], R, h => ⟨h, by simpa using F.rfl⟩
 | x :: M, R, h => by
  obtain ⟨h1, h2⟩ := Qs3 T M (insR c x R) (Q10l T x h)
  refine ⟨h1, F.trans ?_ h2⟩
  have e : R.reverse ++ x :: M = (R.reverse ++ [x]) ++ M := by simp
  rw [e]
  exact (Q16d T x R).app F.rfl
theorem Q154 (T : Tot c) (l : List α) : Up c (Qa4 c l) := by
 unfold Up Qa4
 rw [List.pairwise_reverse]
 exact (Qs3 T l [] List.Pairwise.nil).1
theorem Q10o (T : Tot c) (l : List α) : F c l (Qa4 c l) := (Qs3 T l [] List.Pairwise.nil).2
def bs (g : Int → Bool) : Nat → Int → Int → Int
 | 0, i, _ => i
 | k + 1, i, j => bif decide (i < j) then (bif g ((i + j) / 2) then bs g k ((i + j) / 2 + 1) j else bs g k i ((i + j) / 2)) else i
end
end Go.Pv.Srt
end

section
/- The library's stable sort: symmetric merging and the sort as a whole answer the stably sorted list. Program-free. -/
namespace Go.Pv.Srt
section
variable {α : Type} (z : α) (c : α → α → Int)
def st1 (d : List α) (a m b : Int) : Int := bs (fun h => decide (c (gt z d h) (gt z d a) < 0)) ((b - m).toNat + 1) m b
variable {c}
end
end Go.Pv.Srt
end

section
/- The library's stable sort: merging in general, blocks, the whole. Program-free. -/
namespace Go.Pv.Srt
section
variable {α : Type} (z : α) {c : α → α → Int}
end
end Go.Pv.Srt
end

section
/- The library's stable sort: blocks, and the whole: it answers what insertion answers. Program-free. -/
namespace Go.Pv.Srt
section
variable {α : Type} (z : α) (c : α → α → Int)
inductive Bl (s : Nat) : List α → Prop
  | last {l : List α} : l.length ≤ s → Up c l → Bl s l
  | cons {l r : List α} : l.length = s → Up c l → Bl s r → Bl s (l ++ r)
inductive Fu (s : Nat) : List α → Prop
  | nil : Fu s []
  | snoc {p l : List α} : Fu s p → l.length = s → Up c l → Fu s (p ++ l)
variable {c}
theorem Bl.one {s : Nat} {Q : List α} (h : Bl c s Q) (hl : Q.length ≤ s) : Up c Q := by
 cases h with
 | last _ h => exact h
 | cons h1 h2 h3 =>
  rename_i l r
  rw [List.length_append] at hl
  rw [List.length_eq_zero_iff.1 (show r.length = 0 by omega), List.append_nil]
  exact h2
theorem Bl.split {s : Nat} {Q : List α} (h : Bl c s Q) (hl : s < Q.length) : ∃ l r, Q = l ++ r ∧ l.length = s ∧ Up c l ∧ Bl c s r := by
 cases h with
 | last h _ => omega
 | cons h1 h2 h3 => exact ⟨_, _, rfl, h1, h2, h3⟩
end
end Go.Pv.Srt
end

section
/- Lists of fields: strictly sorted lists are known by their members; keeping the last field of each name of a sorted list; putting a field into a sorted list. -/
namespace Go.Pv
open Srt
theorem Q9i (a : ByteArray) : sCmp a a = 0 := Qrl.2 rfl
theorem Q1b3 {a b : ByteArray} : sEq a b = false ↔ a ≠ b := by
 cases h : sEq a b with
 | true => simp [Q2o.1 h]
 | false => exact ⟨fun _ e => (by rw [Q2o.2 e] at h; cases h), fun _ => rfl⟩
theorem Qwh (a b : ByteArray) : sCmp a b < 0 ∨ a = b ∨ sCmp b a < 0 := by
  have h1 := Qsl a b
  have h2 := Q5o a b
  have h3 : sCmp a b = 0 → a = b := Qrl.1
  unfold R3 at h1
  by_cases e : sCmp a b = 0
  · exact .inr (.inl (h3 e))
  · omega
theorem Q9k {α : Type} (f : α → ByteArray) : Tot (fun x y : α => sCmp (f x) (f y)) := by
  refine ⟨fun x y h => ?_, fun x y w h g => ?_⟩
  · rw [Q5o]
    omega
  · have t := Q17s (f w) (f y) (f x)
    have h1 := Qsl (f w) (f y)
    have h2 := Qsl (f y) (f x)
    rw [Q5o] at h
    rw [Q5o] at g
    have h3 := Q5o (f w) (f y)
    have h4 := Q5o (f y) (f x)
    have h5 := Q5o (f y) (f w)
    have h6 := Q5o (f x) (f y)
    unfold R3 at h1 h2
    unfold T3 at t
    omega
abbrev nlt (x y : Fld) : Prop := sCmp x.name y.name < 0
def SS (l : List Fld) : Prop := l.Pairwise nlt
theorem SS.cons {x : Fld} {l : List Fld} : SS (x :: l) ↔ (∀ y ∈ l, nlt x y) ∧ SS l := List.pairwise_cons
theorem SS.nil : SS [] := List.Pairwise.nil
theorem SS.filter {l : List Fld} (h : SS l) (p : Fld → Bool) : SS (l.filter p) := h.sublist List.filter_sublist
theorem SS.inj {l : List Fld} (h : SS l) {x y : Fld} (hx : x ∈ l) (hy : y ∈ l) (e : x.name = y.name) : x = y := by
  induction l with
  | nil => cases hx
  | cons z l ih =>
    obtain ⟨hz, hl⟩ := SS.cons.1 h
    rcases List.mem_cons.1 hx with e1 | hx' <;> rcases List.mem_cons.1 hy with e2 | hy'
    · rw [e1, e2]
    · subst e1; have := hz y hy'; unfold nlt at this; rw [e, Q9i] at this; omega
    · subst e2; have := hz x hx'; unfold nlt at this; rw [e, Q9i] at this; omega
    · exact ih hl hx' hy'
def lastOf (l : List Fld) (f : Fld) : Prop := (l.filter fun y => decide (y.name = f.name)).getLast? = some f
theorem Qjf (f : Fld) : ¬ lastOf [] f := by simp [lastOf]
theorem Qfa (x f : Fld) (l : List Fld) : lastOf (x :: l) f ↔ lastOf l f ∨ (f = x ∧ ∀ y ∈ l, y.name ≠ x.name) := by
  unfold lastOf
  by_cases h : x.name = f.name
  · rw [List.filter_cons_of_pos (by simpa using h)]
    cases e : l.filter fun y => decide (y.name = f.name) with
    | nil =>
      have := List.filter_eq_nil_iff.1 e
      simp only [List.getLast?_singleton, Option.some.injEq, List.getLast?_nil, reduceCtorEq, false_or]
      exact ⟨fun g => ⟨g.symm, fun y hy => by have := this y hy; rw [h]; simpa using this⟩, fun g => g.1.symm⟩
    | cons a r =>
      rw [List.getLast?_cons_cons]
      refine ⟨.inl, fun g => ?_⟩
      rcases g with g | g
      · exact g
      · have : a ∈ l.filter fun y => decide (y.name = f.name) := by rw [e]; exact List.mem_cons_self
        obtain ⟨h1, h2⟩ := List.mem_filter.1 this
        exact absurd ((of_decide_eq_true h2).trans (by rw [g.1])) (g.2 a h1)
  · rw [List.filter_cons_of_neg (by simpa using h)]
    exact ⟨.inl, fun g => by
      rcases g with g | g
      · exact g
      · exact absurd (by rw [g.1]) h⟩
theorem Qx9 {l : List Fld} {f : Fld} (h : lastOf l f) : f ∈ l := (List.mem_filter.1 (List.mem_of_getLast? h)).1
def lasts : List Fld → List Fld
 | [] => []
 | [x] => [x]
 | x :: y :: r => bif sEq y.name x.name then lasts (y :: r) else x :: lasts (y :: r)
abbrev cNm (x y : Fld) : Int := sCmp x.name y.name
theorem Qqo : ∀ (l : List Fld), Up cNm l → ∀ f, f ∈ lasts l ↔ lastOf l f
  | [], _, f => ⟨fun g => (by cases g), fun g => absurd g (Qjf f)⟩
  | [x], _, f => by
    rw [Qfa]
    simp [lasts, Qjf]
  | x :: y :: r, h, f => by
    have h' := List.pairwise_cons.1 h
    have ih := Qqo (y :: r) h'.2 f
    rw [lasts, Qfa]
    cases e : sEq y.name x.name with
    | true =>
      rw [cond_true, ih]
      exact ⟨.inl, fun g => g.elim id fun g => absurd (Q2o.1 e) (g.2 y List.mem_cons_self)⟩
    | false =>
      rw [cond_false, List.mem_cons, ih]
      refine ⟨fun g => g.elim (fun g => .inr ⟨g, fun w hw hn => ?_⟩) .inl, fun g => g.elim .inr fun g => .inl g.1⟩
      have e := Q1b3.1 e
      rcases List.mem_cons.1 hw with rfl | hw
      · exact e hn
      · have h1 := (List.pairwise_cons.1 h'.2).1 w hw
        have h2 := h'.1 y List.mem_cons_self
        unfold le cNm at h1 h2
        rw [hn] at h1
        rcases Qwh x.name y.name with g | g | g
        · exact h1 g
        · exact e g.symm
        · exact h2 g
theorem Qfb : ∀ (l : List Fld), (lasts l).Sublist l
 | [] => List.Sublist.slnil
 | [x] => List.Sublist.refl _
 | x :: y :: r => by
  rw [lasts]
  cases sEq y.name x.name with
  | true => exact (Qfb (y :: r)).cons x
  | false => exact (Qfb (y :: r)).cons_cons x
theorem Q1al (x y : Fld) : Srt.eqv cNm x y = decide (y.name = x.name) := by
  unfold Srt.eqv cNm
  have h1 : (y.name = x.name) ↔ (¬ sCmp x.name y.name < 0 ∧ ¬ sCmp y.name x.name < 0) := by
    constructor
    · intro e; rw [e, Q9i]; omega
    · intro ⟨g1, g2⟩
      rcases Qwh x.name y.name with g | g | g
      · exact absurd g g1
      · exact g.symm
      · exact absurd g g2
  rw [← Bool.decide_and]
  exact decide_eq_decide.2 h1.symm
theorem Q156 {l r : List Fld} (h : F cNm l r) (f : Fld) : lastOf l f ↔ lastOf r f := by
 have := h.2 f
 unfold lastOf
 rw [show (fun y : Fld => decide (y.name = f.name)) = Srt.eqv cNm f from funext fun y => (Q1al f y).symm, this]
def mapOf (l : List Fld) : List Fld := lasts (Qa4 cNm l)
theorem Q119 (l : List Fld) (f : Fld) : f ∈ mapOf l ↔ lastOf l f := by
 unfold mapOf
 rw [Qqo _ (Q154 (Q9k Fld.name) l)]
 exact (Q156 (Q10o (Q9k Fld.name) l) f).symm
theorem Qf8 {α : Type} (c : α → α → Int) (T : Tot c) (l : List α) : (Qa4 c l).length = l.length := (Q10o T l).1.symm
theorem Q118 (l : List Fld) : (mapOf l).length ≤ l.length := Nat.le_trans (Qfb _).length_le (Nat.le_of_eq (Qf8 _ (Q9k Fld.name) l))
theorem Q11a {l : List Fld} {f : Fld} (h : f ∈ mapOf l) : f ∈ l := Qx9 ((Q119 l f).1 h)
end Go.Pv
end

section
/- How many values a value holds; what that bounds. -/
namespace Go.Pv
open Srt
end Go.Pv
end

section
/- Structures as values: the parts of a map, their kinds; what decodes what was encoded. No program is in sight here. -/
namespace Go.Pv
abbrev vZ : Val := .mk 0 0 (⟨#[]⟩ : ByteArray) [] []
abbrev vN (n : Int) : Val := .mk 2 n (⟨#[]⟩ : ByteArray) [] []
abbrev vS (s : ByteArray) : Val := .mk 3 0 s [] []
abbrev vB (b : Bool) : Val := .mk 1 (bif b then 1 else 0) (⟨#[]⟩ : ByteArray) [] []
abbrev vL (l : List Val) : Val := .mk 4 0 (⟨#[]⟩ : ByteArray) l []
abbrev vM (l : List Fld) : Val := .mk 5 0 (⟨#[]⟩ : ByteArray) [] l
def Qxc (n : ByteArray) : List Fld → Val
 | [] => vZ
 | x :: r => bif sEq x.name n then x.v else Qxc n r
def prt (v : Val) (n : ByteArray) : Val := bif v.kind == 5 then Qxc n v.fields else vZ
def isM (v : Val) : Bool := v.kind == 5 || v.kind == 0
def xN (x : Val) : Int × Bool := bif x.kind == 2 then (x.n, true) else (0, x.kind == 0)
def xS (x : Val) : ByteArray × Bool := bif x.kind == 3 then (x.s, true) else ((⟨#[]⟩ : ByteArray), x.kind == 0)
def xB (x : Val) : Bool × Bool := bif x.kind == 1 then (!(x.n == 0), true) else (false, x.kind == 0)
def xL (x : Val) : List Val × Bool := bif x.kind == 4 then (x.list, true) else ([], x.kind == 0)
def xE {α : Type} (f : Val → α × Bool) (x : Val) : List α × Bool := ((xL x).1.map fun y => (f y).1, (xL x).2 && (xL x).1.all fun y => (f y).2)
abbrev dN (v : Val) (n : ByteArray) : Int × Bool := xN (prt v n)
abbrev dS (v : Val) (n : ByteArray) : ByteArray × Bool := xS (prt v n)
abbrev dB (v : Val) (n : ByteArray) : Bool × Bool := xB (prt v n)
abbrev dL (v : Val) (n : ByteArray) : List Val × Bool := xL (prt v n)
abbrev dE {α : Type} (f : Val → α × Bool) (v : Val) (n : ByteArray) : List α × Bool := xE f (prt v n)
abbrev dT {α : Type} (f : Val → α × Bool) (v : Val) (n : ByteArray) : α × Bool := f (prt v n)
theorem Q17p {v : Val} (h : (v.kind == 5) = false) (n : ByteArray) : prt v n = vZ := by unfold prt; rw [h]; rfl
theorem xB_b (b : Bool) : xB (vB b) = (b, true) := by cases b <;> rfl
theorem Q7w {α : Type} {f : Val → α × Bool} {e : α → Val} (h : ∀ y, f (e y) = (y, true)) (l : List α) : xE f (vL (l.map e)) = (l, true) := by
 have h1 : ∀ l : List α, (l.map e).map (fun y => (f y).1) = l := by
  intro l
  induction l with
  | nil => rfl
  | cons y l ih => rw [List.map_cons, List.map_cons, ih, h y]
 have h2 : ∀ l : List α, ((l.map e).all fun y => (f y).2) = true := by
  intro l
  induction l with
  | nil => rfl
  | cons y l ih => rw [List.map_cons, List.all_cons, ih, h y]; rfl
 show ((l.map e).map (fun y => (f y).1), true && (l.map e).all fun y => (f y).2) = _
 rw [h1, h2]
 rfl
abbrev sB : Nat := 1000000000
theorem Q1h1 : Val.Sm sB vZ := Val.Sm.leaf 0 0 _
theorem Q1h0 {l : List Val} (h : l.length ≤ sB) (g : ∀ x ∈ l, Val.Sm sB x) : Val.Sm sB (vL l) := .mk _ h (Nat.zero_le _) g (fun _ h => by cases h)
theorem Qfu {l : List Fld} (h : l.length ≤ sB) (g : ∀ x ∈ l, Val.Sm sB x.v) : Val.Sm sB (vM l) := .mk _ (Nat.zero_le _) h (fun _ h => by cases h) g
theorem Q12n {B : Nat} (n : ByteArray) : ∀ {l : List Fld}, (∀ x ∈ l, Val.Sm B x.v) → Val.Sm B (Qxc n l)
 | [], _ => Val.Sm.leaf 0 0 _
 | x :: l, h => by
  unfold Qxc
  cases sEq x.name n with
  | true => exact h x List.mem_cons_self
  | false => exact Q12n n fun y hy => h y (List.mem_cons_of_mem _ hy)
theorem Q3w {B : Nat} {v : Val} (h : Val.Sm B v) (n : ByteArray) : Val.Sm B (prt v n) := by
 unfold prt
 cases v.kind == 5 with
 | true => exact Q12n n h.all.2.2.2
 | false => exact Val.Sm.leaf 0 0 _
def LSm {α : Type} (p : α → Prop) (l : List α) : Prop := l.length ≤ sB ∧ ∀ x ∈ l, p x
theorem LSm.leaf {α : Type} {l : List α} (h : l.length ≤ sB) : LSm (fun _ => True) l := ⟨h, fun _ _ => trivial⟩
theorem LSm.nil {α : Type} {p : α → Prop} : LSm p [] := ⟨Nat.zero_le _, fun _ h => by cases h⟩
theorem Qst {x : Val} (h : Val.Sm sB x) : (xL x).1.length ≤ sB ∧ ∀ y ∈ (xL x).1, Val.Sm sB y := by
 unfold xL
 cases x.kind == 4 with
 | true => exact ⟨h.all.1, h.all.2.2.1⟩
 | false => exact ⟨Nat.zero_le _, fun _ h => by cases h⟩
theorem Q2e {α : Type} {e : α → Val} {p : α → Prop} (he : ∀ x, p x → Val.Sm sB (e x)) {l : List α} (h : LSm p l) : Val.Sm sB (vL (l.map e)) :=
 Q1h0 (by rw [List.length_map]; exact h.1) fun z hz => by
  obtain ⟨x, hx, rfl⟩ := List.mem_map.1 hz
  exact he x (h.2 x hx)
end Go.Pv
end

section
/- Decoders that count what is of a wrong kind: counters, and when they stay. No program is in sight here. -/
namespace Go.Pv
def bw (w : Int) (n : Nat) : Int := bif n == 0 then w else w64 (w + (n : Int))
theorem Q182 (x y : Int) : w64 (w64 x + y) = w64 (x + y) := by
 unfold w64 IntKind.wrap
 simp [IntKind.signed, IntKind.bits]
 omega
theorem Q85 (w : Int) (a b : Nat) : bw (bw w a) b = bw w (a + b) := by
 unfold bw
 cases ha : (a == 0) with
 | true =>
  have := eq_of_beq ha
  subst this
  rw [Nat.zero_add]
  rfl
 | false =>
  have ha' := beq_eq_false_iff_ne.1 ha
  cases hb : (b == 0) with
  | true =>
   have := eq_of_beq hb
   subst this
   rw [Nat.add_zero, ha]
   rfl
  | false =>
   rw [show (a + b == 0) = false from beq_eq_false_iff_ne.2 (by omega), cond_false, cond_false, cond_false, Q182]
   congr 1
   omega
theorem Q1ai {n : Nat} (h : n ≤ 4611686018427387904) : decide (0 < bw 0 n) = !(n == 0) := by
 unfold bw
 cases hn : (n == 0) with
 | true => rfl
 | false =>
  have := beq_eq_false_iff_ne.1 hn
  rw [cond_false, Qrq (by omega)]
  simp
  omega
def nb (b : Bool) : Nat := bif b then 0 else 1
theorem nb0 (b : Bool) : (nb b == 0) = b := by cases b <;> rfl
theorem Q15b (b : Bool) : nb b ≤ 1 := by cases b <;> exact Nat.le_of_ble_eq_true rfl
theorem add0 (a b : Nat) : (a + b == 0) = (a == 0 && b == 0) := by
 cases a with
 | zero => rw [Nat.zero_add]; rfl
 | succ a => rw [show (a + 1 + b == 0) = false from beq_eq_false_iff_ne.2 (by omega)]; rfl
def cK (k : Int) (x : Val) : Nat := nb (x.kind == k || x.kind == 0)
def cM (v : Val) : Nat := cK 5 v
theorem cM0 (v : Val) : (cM v == 0) = isM v := nb0 _
def pK (k : Int) (v : Val) (n : ByteArray) : Nat := cM v + cK k (prt v n)
theorem kN (x : Val) : (cK 2 x == 0) = (xN x).2 := by unfold cK xN; rw [nb0]; cases (x.kind == 2) <;> rfl
theorem kS (x : Val) : (cK 3 x == 0) = (xS x).2 := by unfold cK xS; rw [nb0]; cases (x.kind == 3) <;> rfl
theorem kB (x : Val) : (cK 1 x == 0) = (xB x).2 := by unfold cK xB; rw [nb0]; cases (x.kind == 1) <;> rfl
theorem kL (x : Val) : (cK 4 x == 0) = (xL x).2 := by unfold cK xL; rw [nb0]; cases (x.kind == 4) <;> rfl
theorem pN0 (v : Val) (n : ByteArray) : (pK 2 v n == 0) = (isM v && (dN v n).2) := by unfold pK; rw [add0, cM0, kN]
theorem pS0 (v : Val) (n : ByteArray) : (pK 3 v n == 0) = (isM v && (dS v n).2) := by unfold pK; rw [add0, cM0, kS]
theorem pB0 (v : Val) (n : ByteArray) : (pK 1 v n == 0) = (isM v && (dB v n).2) := by unfold pK; rw [add0, cM0, kB]
theorem Qeu (k : Int) (x : Val) : cK k x ≤ 1 := Q15b _
theorem Q7c (k : Int) (v : Val) (n : ByteArray) : pK k v n ≤ 2 := by have := Qeu 5 v; have := Qeu k (prt v n); unfold pK cM; omega
def sumC (c : Val → Nat) : List Val → Nat
 | [] => 0
 | x :: r => c x + sumC c r
theorem Q1b6 {c : Val → Nat} {p : Val → Bool} (h : ∀ x, (c x == 0) = p x) : ∀ l : List Val, (sumC c l == 0) = l.all p
 | [] => rfl
 | x :: l => by rw [sumC, add0, h, Q1b6 h l, List.all_cons]
theorem Q12p {c : Val → Nat} {K B : Nat} {P : Val → Prop} (hc : ∀ x, P x → c x ≤ K) : ∀ {l : List Val}, (∀ x ∈ l, P x) → l.length ≤ B → sumC c l ≤ B * K
 | [], _, _ => Nat.zero_le _
 | x :: l, h, hl => by
  cases B with
  | zero => simp at hl
  | succ B =>
   have h1 := hc x (h x List.mem_cons_self)
   have h2 := Q12p (B := B) hc (fun y hy => h y (List.mem_cons_of_mem _ hy)) (by simp at hl; omega)
   rw [sumC, Nat.succ_mul]
   omega
def pE (c : Val → Nat) (v : Val) (n : ByteArray) : Nat := pK 4 v n + sumC c (dL v n).1
theorem pE0 {α : Type} {f : Val → α × Bool} {c : Val → Nat} (h : ∀ x, (c x == 0) = (f x).2) (v : Val) (n : ByteArray) : (pE c v n == 0) = (isM v && (dE f v n).2) := by
 unfold pE pK
 rw [add0, add0, cM0, kL, Q1b6 h, Bool.and_assoc]
 rfl
theorem Q1bj {B : Nat} {x : Val} (h : Val.Sm B x) : (xL x).1.length ≤ B ∧ ∀ y ∈ (xL x).1, Val.Sm B y := by
 unfold xL
 cases x.kind == 4 with
 | true => exact ⟨h.all.1, h.all.2.2.1⟩
 | false => exact ⟨Nat.zero_le _, fun _ h => by cases h⟩
theorem Qg7 {c : Val → Nat} {B K : Nat} (hc : ∀ x, Val.Sm B x → c x ≤ K) {v : Val} (h : Val.Sm B v) (n : ByteArray) : pE c v n ≤ 2 + B * K := by
 have hx := Q1bj (Q3w h n)
 have h1 := Q12p hc hx.2 hx.1
 have h2 := Q7c 4 v n
 change pK 4 v n + sumC c (xL (prt v n)).1 ≤ _
 omega
theorem Q12j (s : ByteArray) : sLt s s = false := by rw [Q17t, Q9i]; rfl
theorem Qet {a b : Bool} (h : a = true) (k : b = true) : (a && b) = true := by rw [h, k]; rfl
theorem Q1au {a b : Bool} (h : b = true) : (a || b) = true := by rw [h, Bool.or_true]
theorem Q4j {α : Type} {G : Nat → Option Fun} {c : α → En} {r : Rs} {x y : α} (h : x = y) (t : Q6 G (c x) r) : Q6 G (c y) r := h ▸ t
def resC {α : Type} (n : Nat) (x z : α) : α × Int := bif decide (0 < bw 0 n) then (z, 6) else (x, 0)
theorem Qsj {α : Type} {n : Nat} (h : n ≤ 4611686018427387904) (x z : α) : resC n x z = bif n == 0 then (x, 0) else (z, 6) := by
 unfold resC
 rw [Q1ai h]
 cases (n == 0) <;> rfl
end Go.Pv
end

section
/- Small values; equality of what is the same (printed by a program). -/
namespace Go.Proofs.YtbagpdebihicnaaGreat
open Go.Pv
abbrev G : Nat → Option Fun := tabG Ir.table
abbrev Γ : Nat → Option Ty := gam 41
abbrev BA : Type := ByteArray
theorem Q15q (a b : BA) : Q6 G (.call 106 [.str a, .str b] []) (.ret (.int .i64 (sCmp a b)) []) := ⟨1, by kernel_rfl⟩
inductive Qru where
  | k0 (q0 : Int)
  | k1
mutual
def s_Ka (p0 : Val) (p1 : Int) (p2 : Int) : Int :=
 bif (decide (p1 ≤ 0)) then
  (-1)
 else
  bif (decide (p2 ≤ 0)) then
   (-1)
  else
   bif (decide (1000 < (ByteArray.size p0.s : Int))) then
    (-1)
   else
    (match (Q3a p0 p2 p0.fields 0 (Q2k p0 p2 p0.list 0 (w64 (p1 - 1)))) with
    | .k0 y4_0 => y4_0
    | .k1 => (-1))
termination_by SizeOf.sizeOf p0
decreasing_by all_goals first | exact Val.Qsd _ | exact Val.Qff _
def Q2k (p0 : Val) (p2 : Int) : List Val → Nat → Int → Int
 | [], _i0, v0_1 =>
  v0_1
 | x0 :: r0, i0, v0_1 =>
  bif (decide (0 ≤ v0_1)) then
   Q2k p0 p2 r0 (i0 + 1) (s_Ka x0 v0_1 (w64 (p2 - 1)))
  else
   v0_1
termination_by l => SizeOf.sizeOf l
decreasing_by all_goals first | exact Qsc _ _ | exact Q111 _ _ | exact Qvz _ _
def Q3a (p0 : Val) (p2 : Int) : List Fld → Nat → Int → Qru
 | [], _i1, v1_1 =>
  (.k0 v1_1)
 | x1 :: r1, i1, v1_1 =>
  bif (decide (0 ≤ v1_1)) then
   bif (decide (1000 < (ByteArray.size x1.name : Int))) then
    (.k1)
   else
    Q3a p0 p2 r1 (i1 + 1) (s_Ka x1.v v1_1 (w64 (p2 - 1)))
  else
   (.k0 v1_1)
termination_by l => SizeOf.sizeOf l
decreasing_by all_goals first | exact Qsc _ _ | exact Q111 _ _ | exact Qvz _ _
end
def Qt1 (_p0 : Val) (p2 : Int) (i0 : Nat) (v0_1 : Int) : List PV :=
  [.un, .int .i64 v0_1, .int .i64 p2, .bx 0 0, .un, .un, .un, .int .i64 (i0 : Int)] ++ nuns 65
def Qtm (p0 : Val) (_p2 : Int) (_i0 : Nat) (_v0_1 : Int) : List Ob :=
  [⟨5, 0, true, [.int .i64 p0.kind, .int .i64 p0.n, .str p0.s, .sl (Val.rows p0.list), .sl (Fld.rows p0.fields)]⟩]
def Qch (p0 : Val) (p2 : Int) (i0 : Nat) (v0_1 : Int) : En := .loop 0 Ir.Qgh Ir.Q189 (Qt1 p0 p2 i0 v0_1) (Qtm p0 p2 i0 v0_1)
def Qe6 (p0 : Val) (p2 : Int) (q0 : Int) (z : Nat → PV) (_zo : Nat → List PV) : St :=
  ⟨[z 0, .int .i64 q0, .int .i64 p2, .bx 0 0] ++ zr z 4 69, [(0, ⟨5, 0, true, [.int .i64 p0.kind, .int .i64 p0.n, .str p0.s, .sl (Val.rows p0.list), .sl (Fld.rows p0.fields)]⟩)], 577⟩
def Qdy (p0 : Val) (p2 : Int) (e : En) (q : Int) : Prop := ∃ z zo, Q6 G e (.st (.exit 0) (Qe6 p0 p2 q z zo))
theorem Qnu (p0 : Val) (p2 : Int) {e e' : En} (h : ∀ r, Q6 G e r → Q6 G e' r) : ∀ q, Qdy p0 p2 e q → Qdy p0 p2 e' q
  | _, ⟨z, zo, hz⟩ => ⟨z, zo, h _ hz⟩
def Qt2 (_p0 : Val) (p2 : Int) (i1 : Nat) (v1_1 : Int) : List PV :=
  [.un, .int .i64 v1_1, .int .i64 p2, .bx 0 0, .un, .un, .un, .un, .int .i64 (i1 : Int)] ++ nuns 64
def Qtn (p0 : Val) (_p2 : Int) (_i1 : Nat) (_v1_1 : Int) : List Ob :=
  [⟨5, 0, true, [.int .i64 p0.kind, .int .i64 p0.n, .str p0.s, .sl (Val.rows p0.list), .sl (Fld.rows p0.fields)]⟩]
def Q9l (p0 : Val) (p2 : Int) (i1 : Nat) (v1_1 : Int) : En := .loop 0 Ir.Qgi Ir.Q18a (Qt2 p0 p2 i1 v1_1) (Qtn p0 p2 i1 v1_1)
def Qe7 (p0 : Val) (_p2 : Int) (q0 : Int) (z : Nat → PV) (_zo : Nat → List PV) : St :=
  ⟨[z 0, .int .i64 q0] ++ zr z 2 71, [(0, ⟨5, 0, true, [.int .i64 p0.kind, .int .i64 p0.n, .str p0.s, .sl (Val.rows p0.list), .sl (Fld.rows p0.fields)]⟩)], 577⟩
def Qog (_p0 : Val) (_p2 : Int) (z : Nat → PV) (zo : Nat → List PV) : St :=
  ⟨zr z 0 6 ++ [.int .i64 (-1)] ++ zr z 7 66, [(0, ⟨5, 0, true, zo 0⟩)], 1153⟩
def Q9w (p0 : Val) (p2 : Int) (e : En) : Qru → Prop
  | .k0 q0 => ∃ z zo, Q6 G e (.st (.exit 2) (Qe7 p0 p2 q0 z zo))
  | .k1 => ∃ z zo, Q6 G e (.st .ret (Qog p0 p2 z zo))
theorem Qnv (p0 : Val) (p2 : Int) {e e' : En} (h : ∀ r, Q6 G e r → Q6 G e' r) : ∀ q, Q9w p0 p2 e q → Q9w p0 p2 e' q
  | .k0 _, ⟨z, zo, hz⟩ => ⟨z, zo, h _ hz⟩
  | .k1, ⟨z, zo, hz⟩ => ⟨z, zo, h _ hz⟩
def c_Ka (p0 : Val) (p1 : Int) (p2 : Int) : En := .call 70 [.agg (Val.cells p0), .int .i64 p1, .int .i64 p2] []
def a_Ka (p0 : Val) (p1 : Int) (p2 : Int) : Rs := .ret (.int .i64 (s_Ka p0 p1 p2)) []
abbrev H_Ka (p0 : Val) : Prop := Val.Sm 4611686018427387904 p0
def Q7u (p0 : Val) : Prop := ∀ (q : Val), SizeOf.sizeOf q < SizeOf.sizeOf p0 → ∀ (p1 : Int), ∀ (p2 : Int), H_Ka q → Q6 G (c_Ka q p1 p2) (a_Ka q p1 p2)
def Q9r (p0 : Val) (_p2 : Int) : Prop := (List.length p0.list ≤ 4611686018427387904) ∧ (∀ x0 ∈ p0.list, H_Ka x0) ∧ True
def Q81 (p0 : Val) (_p2 : Int) : Prop := (List.length p0.fields ≤ 4611686018427387904) ∧ (∀ x1 ∈ p0.fields, H_Ka x1.v) ∧ True
theorem Q10c (p0 : Val) (_p1 : Int) (p2 : Int) (H : H_Ka p0) : (Q9r p0 p2) ∧ (Q81 p0 p2) ∧ True := by
  obtain ⟨h1, h2, h3, h4⟩ := H.all
  simp only [Q9r, Q81]
  exact ⟨⟨h1, h3, trivial⟩, ⟨h2, h4, trivial⟩, trivial⟩
def Qp4 (p0 : Val) (_p2 : Int) (i0 : Nat) (_v0_1 : Int) : List PV :=
  nuns 7 ++ [.int .i64 (i0 : Int)] ++ nuns 15 ++ [.int .i64 (i0 : Int), .bx 0 3, .sl (Val.rows p0.list), .int .i64 ((List.length p0.list) : Int), .bool false, .bool false, .tup [], .tup [], .bool false]
def Qhu (_p0 : Val) (_p2 : Int) (_i0 : Nat) (_v0_1 : Int) : List (Nat × List PV) :=
  []
theorem Q13a (p0 : Val) (p2 : Int) (_H : Q9r p0 p2) (_rec : Q7u p0) (i0 : Nat) (v0_1 : Int) (hc0 : (decide ((i0 : Int) < ((List.length p0.list) : Int))) = false) : Qdy p0 p2 (Qch p0 p2 i0 v0_1) v0_1 := by
 exact ⟨(envF (Qp4 p0 p2 i0 v0_1)), (zoF (Qhu p0 p2 i0 v0_1)), Qh VOK.nil (x := ((.exit 0), Qe6 p0 p2 v0_1 (envF (Qp4 p0 p2 i0 v0_1)) (zoF (Qhu p0 p2 i0 v0_1)))) [hP 3 (Qn (Val.rows p0.list) (List.length p0.list) (Val.Q5 p0.list)), hB 0 hc0] [] (by kernel_rfl)⟩
theorem Q11i (p0 : Val) (p2 : Int) (H : Q9r p0 p2) (rec : Q7u p0) (x0 : Val) (i0 : Nat) (v0_1 : Int) (hx0 : p0.list[i0]? = some x0) (hi0 : i0 < List.length p0.list) (hc0 : (decide ((i0 : Int) < ((List.length p0.list) : Int))) = true) (h0 : (decide (0 ≤ v0_1)) = true) {r : Rs} (hr : Q6 G (Qch p0 p2 (i0 + 1) (s_Ka x0 v0_1 (w64 (p2 - 1)))) r) : Q6 G (Qch p0 p2 i0 v0_1) r := by
 have hB0 := H.1; have e0 := of_decide_eq_true h0
 exact Qb VOK.nil (y := (Qt1 p0 p2 (i0 + 1) (s_Ka x0 v0_1 (w64 (p2 - 1))), Qtm p0 p2 (i0 + 1) (s_Ka x0 v0_1 (w64 (p2 - 1))))) [hP 3 (Qn (Val.rows p0.list) (List.length p0.list) (Val.Q5 p0.list)), hB 0 hc0, hB 2 h0, hP 4 (Q1f 5 (Val.rows p0.list) i0 _ (Val.Q9 hx0) rfl), hP 7 (Q1b i0 (by omega))] [aN (rec x0 (szL hx0) v0_1 (w64 (p2 - 1)) (H.2.1 x0 (Q1q hx0)))] (by kernel_rfl) hr
def Qp5 (p0 : Val) (_p2 : Int) (i0 : Nat) (v0_1 : Int) (_x0 : Val) : List PV :=
  nuns 7 ++ [.int .i64 (i0 : Int)] ++ nuns 15 ++ [.int .i64 (i0 : Int), .bx 0 3, .sl (Val.rows p0.list), .int .i64 ((List.length p0.list) : Int), .bool true, .bool true, .int .i64 v0_1, .bool false, .bool false]
def Qhv (_p0 : Val) (_p2 : Int) (_i0 : Nat) (_v0_1 : Int) (_x0 : Val) : List (Nat × List PV) :=
  []
theorem Q13b (p0 : Val) (p2 : Int) (_H : Q9r p0 p2) (_rec : Q7u p0) (x0 : Val) (i0 : Nat) (v0_1 : Int) (_hx0 : p0.list[i0]? = some x0) (_hi0 : i0 < List.length p0.list) (hc0 : (decide ((i0 : Int) < ((List.length p0.list) : Int))) = true) (h0 : (decide (0 ≤ v0_1)) = false) : Qdy p0 p2 (Qch p0 p2 i0 v0_1) v0_1 := by
 exact ⟨(envF (Qp5 p0 p2 i0 v0_1 x0)), (zoF (Qhv p0 p2 i0 v0_1 x0)), Qh VOK.nil (x := ((.exit 0), Qe6 p0 p2 v0_1 (envF (Qp5 p0 p2 i0 v0_1 x0)) (zoF (Qhv p0 p2 i0 v0_1 x0)))) [hP 3 (Qn (Val.rows p0.list) (List.length p0.list) (Val.Q5 p0.list)), hB 0 hc0, hB 2 h0] [] (by kernel_rfl)⟩
theorem Qvi (p0 : Val) (p2 : Int) (H : Q9r p0 p2) (rec : Q7u p0) : ∀ (r0 : List Val) (i0 : Nat) (v0_1 : Int), List.drop i0 p0.list = r0 → Qdy p0 p2 (Qch p0 p2 i0 v0_1) (Q2k p0 p2 r0 i0 v0_1)
 | [], i0, v0_1, hd => by
  have hc0 : (decide ((i0 : Int) < ((List.length p0.list) : Int))) = false := by have := Q10 hd; simp; omega
  rw [Q2k]
  exact Q13a p0 p2 H rec i0 v0_1 hc0
 | x0 :: r0, i0, v0_1, hd => by
  obtain ⟨hx0, hi0, hd'⟩ := Qz hd
  have hc0 : (decide ((i0 : Int) < ((List.length p0.list) : Int))) = true := by simp; omega
  rw [Q2k]
  cases h0 : (decide (0 ≤ v0_1)) with
  | true =>
   exact Qnu p0 p2 (fun r hr => Q11i p0 p2 H rec x0 i0 v0_1 hx0 hi0 hc0 h0 hr) _ (Qvi p0 p2 H rec r0 (i0 + 1) (s_Ka x0 v0_1 (w64 (p2 - 1))) hd')
  | false =>
   exact Q13b p0 p2 H rec x0 i0 v0_1 hx0 hi0 hc0 h0
def Qp6 (p0 : Val) (p2 : Int) (i1 : Nat) (_v1_1 : Int) : List PV :=
  [.un, .un, .int .i64 p2, .bx 0 0, .un, .un, .un, .un, .int .i64 (i1 : Int)] ++ nuns 34 ++ [.int .i64 (i1 : Int), .bx 0 4, .sl (Fld.rows p0.fields), .int .i64 ((List.length p0.fields) : Int), .bool false, .bool false, .tup [], .tup [], .bool false]
def Qhw (_p0 : Val) (_p2 : Int) (_i1 : Nat) (_v1_1 : Int) : List (Nat × List PV) :=
  []
theorem Q13c (p0 : Val) (p2 : Int) (_H : Q81 p0 p2) (_rec : Q7u p0) (i1 : Nat) (v1_1 : Int) (hc1 : (decide ((i1 : Int) < ((List.length p0.fields) : Int))) = false) : Q9w p0 p2 (Q9l p0 p2 i1 v1_1) (.k0 v1_1) := by
 exact ⟨(envF (Qp6 p0 p2 i1 v1_1)), (zoF (Qhw p0 p2 i1 v1_1)), Qh VOK.nil (x := ((.exit 2), Qe7 p0 p2 v1_1 (envF (Qp6 p0 p2 i1 v1_1)) (zoF (Qhw p0 p2 i1 v1_1)))) [hP 3 (Qn (Fld.rows p0.fields) (List.length p0.fields) (Fld.Q5 p0.fields)), hB 0 hc1] [] (by kernel_rfl)⟩
def Qp7 (p0 : Val) (p2 : Int) (i1 : Nat) (v1_1 : Int) (x1 : Fld) : List PV :=
  [.un, .int .i64 v1_1, .int .i64 p2, .bx 0 0, .un, .un, .un, .un, .int .i64 (i1 : Int)] ++ nuns 34 ++ [.int .i64 (i1 : Int), .bx 0 4, .sl (Fld.rows p0.fields), .int .i64 ((List.length p0.fields) : Int), .bool true, .bool true, .int .i64 v1_1, .bool true, .bool true, .un, .un, .bx 0 4, .sl (Fld.rows p0.fields), .int .i64 (i1 : Int), .rf [.str x1.name, .int .i64 x1.v.kind, .int .i64 x1.v.n, .str x1.v.s, .sl (Val.rows x1.v.list), .sl (Fld.rows x1.v.fields)], .rf [.str x1.name, .int .i64 x1.v.kind, .int .i64 x1.v.n, .str x1.v.s, .sl (Val.rows x1.v.list), .sl (Fld.rows x1.v.fields)], .str x1.name, .int .i64 (ByteArray.size x1.name : Int), .bool true]
def Qhx (p0 : Val) (_p2 : Int) (_i1 : Nat) (_v1_1 : Int) (_x1 : Fld) : List (Nat × List PV) :=
  [(0, [.int .i64 p0.kind, .int .i64 p0.n, .str p0.s, .sl (Val.rows p0.list), .sl (Fld.rows p0.fields)])]
theorem Q13d (p0 : Val) (p2 : Int) (_H : Q81 p0 p2) (_rec : Q7u p0) (x1 : Fld) (i1 : Nat) (v1_1 : Int) (hx1 : p0.fields[i1]? = some x1) (_hi1 : i1 < List.length p0.fields) (hc1 : (decide ((i1 : Int) < ((List.length p0.fields) : Int))) = true) (h0 : (decide (0 ≤ v1_1)) = true) (h1 : (decide (1000 < (ByteArray.size x1.name : Int))) = true) : Q9w p0 p2 (Q9l p0 p2 i1 v1_1) (.k1) := by
 exact ⟨(envF (Qp7 p0 p2 i1 v1_1 x1)), (zoF (Qhx p0 p2 i1 v1_1 x1)), Qh VOK.nil (x := (.ret, Qog p0 p2 (envF (Qp7 p0 p2 i1 v1_1 x1)) (zoF (Qhx p0 p2 i1 v1_1 x1)))) [hP 3 (Qn (Fld.rows p0.fields) (List.length p0.fields) (Fld.Q5 p0.fields)), hB 0 hc1, hB 2 h0, hP 4 (Q1f 6 (Fld.rows p0.fields) i1 _ (Fld.Q9 hx1) rfl), hB 3 h1] [] (by kernel_rfl)⟩
theorem Q11j (p0 : Val) (p2 : Int) (H : Q81 p0 p2) (rec : Q7u p0) (x1 : Fld) (i1 : Nat) (v1_1 : Int) (hx1 : p0.fields[i1]? = some x1) (hi1 : i1 < List.length p0.fields) (hc1 : (decide ((i1 : Int) < ((List.length p0.fields) : Int))) = true) (h0 : (decide (0 ≤ v1_1)) = true) (h1 : (decide (1000 < (ByteArray.size x1.name : Int))) = false) {r : Rs} (hr : Q6 G (Q9l p0 p2 (i1 + 1) (s_Ka x1.v v1_1 (w64 (p2 - 1)))) r) : Q6 G (Q9l p0 p2 i1 v1_1) r := by
 have hB0 := H.1; have e0 := of_decide_eq_true h0; have e1 := of_decide_eq_false h1
 exact Qb VOK.nil (y := (Qt2 p0 p2 (i1 + 1) (s_Ka x1.v v1_1 (w64 (p2 - 1))), Qtn p0 p2 (i1 + 1) (s_Ka x1.v v1_1 (w64 (p2 - 1))))) [hP 3 (Qn (Fld.rows p0.fields) (List.length p0.fields) (Fld.Q5 p0.fields)), hB 0 hc1, hB 2 h0, hP 4 (Q1f 6 (Fld.rows p0.fields) i1 _ (Fld.Q9 hx1) rfl), hB 3 h1, hP 3 (Q1f 6 (Fld.rows p0.fields) i1 _ (Fld.Q9 hx1) rfl), hP 8 (Q1b i1 (by omega))] [aN (rec x1.v (szF hx1) v1_1 (w64 (p2 - 1)) (H.2.1 x1 (Q1q hx1)))] (by kernel_rfl) hr
def Qp8 (p0 : Val) (p2 : Int) (i1 : Nat) (v1_1 : Int) (_x1 : Fld) : List PV :=
  [.un, .un, .int .i64 p2, .bx 0 0, .un, .un, .un, .un, .int .i64 (i1 : Int)] ++ nuns 34 ++ [.int .i64 (i1 : Int), .bx 0 4, .sl (Fld.rows p0.fields), .int .i64 ((List.length p0.fields) : Int), .bool true, .bool true, .int .i64 v1_1, .bool false, .bool false]
def Qhy (_p0 : Val) (_p2 : Int) (_i1 : Nat) (_v1_1 : Int) (_x1 : Fld) : List (Nat × List PV) :=
  []
theorem Q13e (p0 : Val) (p2 : Int) (_H : Q81 p0 p2) (_rec : Q7u p0) (x1 : Fld) (i1 : Nat) (v1_1 : Int) (_hx1 : p0.fields[i1]? = some x1) (_hi1 : i1 < List.length p0.fields) (hc1 : (decide ((i1 : Int) < ((List.length p0.fields) : Int))) = true) (h0 : (decide (0 ≤ v1_1)) = false) : Q9w p0 p2 (Q9l p0 p2 i1 v1_1) (.k0 v1_1) := by
 exact ⟨(envF (Qp8 p0 p2 i1 v1_1 x1)), (zoF (Qhy p0 p2 i1 v1_1 x1)), Qh VOK.nil (x := ((.exit 2), Qe7 p0 p2 v1_1 (envF (Qp8 p0 p2 i1 v1_1 x1)) (zoF (Qhy p0 p2 i1 v1_1 x1)))) [hP 3 (Qn (Fld.rows p0.fields) (List.length p0.fields) (Fld.Q5 p0.fields)), hB 0 hc1, hB 2 h0] [] (by kernel_rfl)⟩
theorem Qvj (p0 : Val) (p2 : Int) (H : Q81 p0 p2) (rec : Q7u p0) : ∀ (r1 : List Fld) (i1 : Nat) (v1_1 : Int), List.drop i1 p0.fields = r1 → Q9w p0 p2 (Q9l p0 p2 i1 v1_1) (Q3a p0 p2 r1 i1 v1_1)
 | [], i1, v1_1, hd => by
  have hc1 : (decide ((i1 : Int) < ((List.length p0.fields) : Int))) = false := by have := Q10 hd; simp; omega
  rw [Q3a]
  exact Q13c p0 p2 H rec i1 v1_1 hc1
 | x1 :: r1, i1, v1_1, hd => by
  obtain ⟨hx1, hi1, hd'⟩ := Qz hd
  have hc1 : (decide ((i1 : Int) < ((List.length p0.fields) : Int))) = true := by simp; omega
  rw [Q3a]
  cases h0 : (decide (0 ≤ v1_1)) with
  | true =>
   cases h1 : (decide (1000 < (ByteArray.size x1.name : Int))) with
   | true =>
    exact Q13d p0 p2 H rec x1 i1 v1_1 hx1 hi1 hc1 h0 h1
   | false =>
    exact Qnv p0 p2 (fun r hr => Q11j p0 p2 H rec x1 i1 v1_1 hx1 hi1 hc1 h0 h1 hr) _ (Qvj p0 p2 H rec r1 (i1 + 1) (s_Ka x1.v v1_1 (w64 (p2 - 1))) hd')
  | false =>
   exact Q13e p0 p2 H rec x1 i1 v1_1 hx1 hi1 hc1 h0
theorem r_Ka (p0 : Val) (p1 : Int) (p2 : Int) (H : H_Ka p0) (rec : Q7u p0) : Q6 G (c_Ka p0 p1 p2) (a_Ka p0 p1 p2) := by
  unfold a_Ka
  rw [s_Ka]
  cases h0 : (decide (p1 ≤ 0)) with
  | true =>
   exact Q8 (fn := Ir.Ka) rfl VOK.nil [hB 3 h0] [] (by kernel_rfl)
  | false =>
   cases h1 : (decide (p2 ≤ 0)) with
   | true =>
    exact Q8 (fn := Ir.Ka) rfl VOK.nil [hB 3 h0, hB 2 h1] [] (by kernel_rfl)
   | false =>
    cases h2 : (decide (1000 < (ByteArray.size p0.s : Int))) with
    | true =>
     exact Q8 (fn := Ir.Ka) rfl VOK.nil [hB 3 h0, hB 2 h1, hB 5 h2] [] (by kernel_rfl)
    | false =>
     have hl3 := Qvi p0 p2 ((Q10c p0 p1 p2 H).1) rec p0.list 0 (w64 (p1 - 1)) (by simp)
     obtain ⟨z3, zo3, hl3⟩ := hl3
     have hl4 := Qvj p0 p2 ((Q10c p0 p1 p2 H).2.1) rec p0.fields 0 (Q2k p0 p2 p0.list 0 (w64 (p1 - 1))) (by simp)
     cases hr4 : (Q3a p0 p2 p0.fields 0 (Q2k p0 p2 p0.list 0 (w64 (p1 - 1)))) with
     | k0 y4_0 =>
       rw [hr4] at hl4
       obtain ⟨z4, zo4, hl4⟩ := hl4
       exact Q8 (fn := Ir.Ka) rfl VOK.nil [hB 3 h0, hB 2 h1, hB 5 h2] [aN hl3, aN hl4] (by kernel_rfl)
     | k1 =>
       rw [hr4] at hl4
       obtain ⟨z4, zo4, hl4⟩ := hl4
       exact Q8 (fn := Ir.Ka) rfl VOK.nil [hB 3 h0, hB 2 h1, hB 5 h2] [aN hl3, aN hl4] (by kernel_rfl)
theorem i_Ka : ∀ (k : Nat) (p0 : Val), SizeOf.sizeOf p0 < k → ∀ (p1 : Int), ∀ (p2 : Int), H_Ka p0 → Q6 G (c_Ka p0 p1 p2) (a_Ka p0 p1 p2)
  | 0, _, h, _, _, _ => absurd h (Nat.not_lt_zero _)
  | k + 1, p0, h, p1, p2, H => r_Ka p0 p1 p2 H (fun q hq p1 p2 hH => i_Ka k q (by omega) p1 p2 hH)
theorem t_Ka (p0 : Val) (p1 : Int) (p2 : Int) (H : H_Ka p0) : Q6 G (c_Ka p0 p1 p2) (a_Ka p0 p1 p2) := i_Ka _ p0 (Nat.lt_succ_self _) p1 p2 H
def s_K9 (p0 : Val) (p1 : Int) : Bool :=
 (decide (0 ≤ (s_Ka p0 p1 p1)))
def c_K9 (p0 : Val) (p1 : Int) : En := .call 22 [.agg (Val.cells p0), .int .i64 p1] []
def a_K9 (p0 : Val) (p1 : Int) : Rs := .ret (.bool (s_K9 p0 p1)) []
def H_K9 (p0 : Val) (_p1 : Int) : Prop := (H_Ka p0) ∧ True
theorem t_K9 (p0 : Val) (p1 : Int) (H : H_K9 p0 p1) : Q6 G (c_K9 p0 p1) (a_K9 p0 p1) := by
 unfold a_K9 s_K9
 exact Q8 (fn := Ir.K9) rfl VOK.nil [] [aN (t_Ka p0 p1 p1 H.1)] (by kernel_rfl)
def s_Kb (p0 : Bool) (p1 : Bool) : Int :=
 bif p0 then
  bif p1 then
   (-1)
  else
   (-1)
 else
  bif p1 then
   1
  else
   0
def c_Kb (p0 : Bool) (p1 : Bool) : En := .call 104 [.bool p0, .bool p1] []
def a_Kb (p0 : Bool) (p1 : Bool) : Rs := .ret (.int .i64 (s_Kb p0 p1)) []
theorem t_Kb (p0 : Bool) (p1 : Bool) : Q6 G (c_Kb p0 p1) (a_Kb p0 p1) := by
 unfold a_Kb s_Kb
 cases h0 : p0 with
 | true =>
  cases h1 : p1 with
  | true =>
   exact Q8 (fn := Ir.Kb) rfl VOK.nil [] [] (by kernel_rfl)
  | false =>
   exact Q8 (fn := Ir.Kb) rfl VOK.nil [] [] (by kernel_rfl)
 | false =>
  cases h1 : p1 with
  | true =>
   exact Q8 (fn := Ir.Kb) rfl VOK.nil [] [] (by kernel_rfl)
  | false =>
   exact Q8 (fn := Ir.Kb) rfl VOK.nil [] [] (by kernel_rfl)
def s_K3 (_ : Val) : Int := 0
def Q10p (p0 : Val) : List Val → Nat → Unit
 | [], _i0 =>
  ()
 | _x0 :: r0, i0 =>
  Q10p p0 r0 (i0 + 1)
def Qsw (_p0 : Val) (i0 : Nat) : List PV :=
  [.un, .un, .bx 0 0, .bx 1 0, .un, .int .i64 0, .int .i64 (i0 : Int)] ++ nuns 162
def Qtj (p0 : Val) (_i0 : Nat) : List Ob :=
  [⟨5, 0, true, [.int .i64 p0.kind, .int .i64 p0.n, .str p0.s, .sl (Val.rows p0.list), .sl (Fld.rows p0.fields)]⟩, ⟨5, 0, true, [.int .i64 p0.kind, .int .i64 p0.n, .str p0.s, .sl (Val.rows p0.list), .sl (Fld.rows p0.fields)]⟩]
def Qjv (p0 : Val) (i0 : Nat) : En := .loop 0 Ir.Qgc Ir.Q184 (Qsw p0 i0) (Qtj p0 i0)
def Qob (p0 : Val) (z : Nat → PV) (_zo : Nat → List PV) : St :=
  ⟨[z 0, z 1, .bx 0 0, .bx 1 0, z 4, .int .i64 0] ++ zr z 6 163, [(0, ⟨5, 0, true, [.int .i64 p0.kind, .int .i64 p0.n, .str p0.s, .sl (Val.rows p0.list), .sl (Fld.rows p0.fields)]⟩), (1, ⟨5, 0, true, [.int .i64 p0.kind, .int .i64 p0.n, .str p0.s, .sl (Val.rows p0.list), .sl (Fld.rows p0.fields)]⟩)], 1026⟩
def Q9u (p0 : Val) (e : En) (_q : Unit) : Prop := ∃ z zo, Q6 G e (.st (.exit 0) (Qob p0 z zo))
theorem Qnp (p0 : Val) {e e' : En} (h : ∀ r, Q6 G e r → Q6 G e' r) : ∀ q, Q9u p0 e q → Q9u p0 e' q
  | _, ⟨z, zo, hz⟩ => ⟨z, zo, h _ hz⟩
def Q10q (p0 : Val) : List Fld → Nat → Unit
 | [], _i1 =>
  ()
 | _x1 :: r1, i1 =>
  Q10q p0 r1 (i1 + 1)
def Qsx (_p0 : Val) (i1 : Nat) : List PV :=
  [.un, .un, .bx 0 0, .bx 1 0, .un, .int .i64 0, .un, .int .i64 (i1 : Int)] ++ nuns 161
def Qtk (p0 : Val) (_i1 : Nat) : List Ob :=
  [⟨5, 0, true, [.int .i64 p0.kind, .int .i64 p0.n, .str p0.s, .sl (Val.rows p0.list), .sl (Fld.rows p0.fields)]⟩, ⟨5, 0, true, [.int .i64 p0.kind, .int .i64 p0.n, .str p0.s, .sl (Val.rows p0.list), .sl (Fld.rows p0.fields)]⟩]
def Qjw (p0 : Val) (i1 : Nat) : En := .loop 0 Ir.Qgd Ir.Q185 (Qsx p0 i1) (Qtk p0 i1)
def Qoc (p0 : Val) (z : Nat → PV) (_zo : Nat → List PV) : St :=
  ⟨[z 0, z 1, .bx 0 0, .bx 1 0, z 4, .int .i64 0] ++ zr z 6 163, [(0, ⟨5, 0, true, [.int .i64 p0.kind, .int .i64 p0.n, .str p0.s, .sl (Val.rows p0.list), .sl (Fld.rows p0.fields)]⟩), (1, ⟨5, 0, true, [.int .i64 p0.kind, .int .i64 p0.n, .str p0.s, .sl (Val.rows p0.list), .sl (Fld.rows p0.fields)]⟩)], 1026⟩
def Q9v (p0 : Val) (e : En) (_q : Unit) : Prop := ∃ z zo, Q6 G e (.st (.exit 2) (Qoc p0 z zo))
theorem Qnq (p0 : Val) {e e' : En} (h : ∀ r, Q6 G e r → Q6 G e' r) : ∀ q, Q9v p0 e q → Q9v p0 e' q
  | _, ⟨z, zo, hz⟩ => ⟨z, zo, h _ hz⟩
theorem e_K3 (p0 : Val) : s_K3 p0 = (0) := by
  rfl
def c_K3 (p0 : Val) : En := .call 77 [.agg (Val.cells p0), .agg (Val.cells p0)] []
def a_K3 (p0 : Val) : Rs := .ret (.int .i64 (s_K3 p0)) []
abbrev H_K3 (p0 : Val) : Prop := Val.Sm 4611686018427387904 p0
def Qe2 (p0 : Val) : Prop := ∀ (q : Val), SizeOf.sizeOf q < SizeOf.sizeOf p0 → H_K3 q → Q6 G (c_K3 q) (a_K3 q)
def Qd8 (p0 : Val) : Prop := (List.length p0.list ≤ 4611686018427387904) ∧ (∀ x0 ∈ p0.list, H_K3 x0) ∧ True
def Qd9 (p0 : Val) : Prop := (List.length p0.fields ≤ 4611686018427387904) ∧ (∀ x1 ∈ p0.fields, H_K3 x1.v) ∧ True
theorem Q109 (p0 : Val) (H : H_K3 p0) : (Qd8 p0) ∧ (Qd9 p0) ∧ True := by
  obtain ⟨h1, h2, h3, h4⟩ := H.all
  simp only [Qd8, Qd9]
  exact ⟨⟨h1, h3, trivial⟩, ⟨h2, h4, trivial⟩, trivial⟩
def Qoz (p0 : Val) (i0 : Nat) : List PV :=
  nuns 6 ++ [.int .i64 (i0 : Int)] ++ nuns 38 ++ [.int .i64 (i0 : Int), .bx 0 3, .sl (Val.rows p0.list), .int .i64 ((List.length p0.list) : Int), .bool false, .bool false, .tup [], .tup [], .tup [], .tup [], .tup [], .bool false, .bool false, .tup [], .tup [], .bool false]
def Qhp (_p0 : Val) (_i0 : Nat) : List (Nat × List PV) :=
  []
theorem Q135 (p0 : Val) (_H : Qd8 p0) (_rec : Qe2 p0) (i0 : Nat) (hc0 : (decide ((i0 : Int) < ((List.length p0.list) : Int))) = false) : Q9u p0 (Qjv p0 i0) () := by
 exact ⟨(envF (Qoz p0 i0)), (zoF (Qhp p0 i0)), Qh VOK.nil (x := ((.exit 0), Qob p0 (envF (Qoz p0 i0)) (zoF (Qhp p0 i0)))) [hP 3 (Qn (Val.rows p0.list) (List.length p0.list) (Val.Q5 p0.list)), hB 0 hc0] [] (by kernel_rfl)⟩
theorem Q11d (p0 : Val) (H : Qd8 p0) (rec : Qe2 p0) (x0 : Val) (i0 : Nat) (hx0 : p0.list[i0]? = some x0) (hi0 : i0 < List.length p0.list) (hc0 : (decide ((i0 : Int) < ((List.length p0.list) : Int))) = true) {r : Rs} (hr : Q6 G (Qjv p0 (i0 + 1)) r) : Q6 G (Qjv p0 i0) r := by
 have hB0 := H.1
 exact Qb VOK.nil (y := (Qsw p0 (i0 + 1), Qtj p0 (i0 + 1))) [hP 3 (Qn (Val.rows p0.list) (List.length p0.list) (Val.Q5 p0.list)), hB 0 hc0, hP 4 (Qn (Val.rows p0.list) (List.length p0.list) (Val.Q5 p0.list)), hB 0 hc0, hP 8 (Q1f 5 (Val.rows p0.list) i0 _ (Val.Q9 hx0) rfl), hP 4 (Q1f 5 (Val.rows p0.list) i0 _ (Val.Q9 hx0) rfl), hP 4 (Q1b i0 (by omega))] [aN (rec x0 (szL hx0) (H.2.1 x0 (Q1q hx0)))] (by kernel_rfl) hr
theorem Qvd (p0 : Val) (H : Qd8 p0) (rec : Qe2 p0) : ∀ (r0 : List Val) (i0 : Nat), List.drop i0 p0.list = r0 → Q9u p0 (Qjv p0 i0) (Q10p p0 r0 i0)
 | [], i0, hd => by
  have hc0 : (decide ((i0 : Int) < ((List.length p0.list) : Int))) = false := by have := Q10 hd; simp; omega
  show Q9u p0 _ ()
  exact Q135 p0 H rec i0 hc0
 | x0 :: r0, i0, hd => by
  obtain ⟨hx0, hi0, hd'⟩ := Qz hd
  have hc0 : (decide ((i0 : Int) < ((List.length p0.list) : Int))) = true := by simp; omega
  show Q9u p0 _ ()
  exact Qnp p0 (fun r hr => Q11d p0 H rec x0 i0 hx0 hi0 hc0 hr) _ (Qvd p0 H rec r0 (i0 + 1) hd')
def Qp0 (p0 : Val) (i1 : Nat) : List PV :=
  nuns 7 ++ [.int .i64 (i1 : Int)] ++ nuns 83 ++ [.int .i64 (i1 : Int), .bx 0 4, .sl (Fld.rows p0.fields), .int .i64 ((List.length p0.fields) : Int), .bool false, .bool false, .tup [], .tup [], .tup [], .tup [], .tup [], .bool false, .bool false, .tup [], .tup [], .bool false]
def Qhq (_p0 : Val) (_i1 : Nat) : List (Nat × List PV) :=
  []
theorem Q136 (p0 : Val) (_H : Qd9 p0) (_rec : Qe2 p0) (i1 : Nat) (hc1 : (decide ((i1 : Int) < ((List.length p0.fields) : Int))) = false) : Q9v p0 (Qjw p0 i1) () := by
 exact ⟨(envF (Qp0 p0 i1)), (zoF (Qhq p0 i1)), Qh VOK.nil (x := ((.exit 2), Qoc p0 (envF (Qp0 p0 i1)) (zoF (Qhq p0 i1)))) [hP 3 (Qn (Fld.rows p0.fields) (List.length p0.fields) (Fld.Q5 p0.fields)), hB 0 hc1] [] (by kernel_rfl)⟩
theorem Q11e (p0 : Val) (H : Qd9 p0) (rec : Qe2 p0) (x1 : Fld) (i1 : Nat) (hx1 : p0.fields[i1]? = some x1) (hi1 : i1 < List.length p0.fields) (hc1 : (decide ((i1 : Int) < ((List.length p0.fields) : Int))) = true) {r : Rs} (hr : Q6 G (Qjw p0 (i1 + 1)) r) : Q6 G (Qjw p0 i1) r := by
 have hB0 := H.1
 exact Qb VOK.nil (y := (Qsx p0 (i1 + 1), Qtk p0 (i1 + 1))) [hP 3 (Qn (Fld.rows p0.fields) (List.length p0.fields) (Fld.Q5 p0.fields)), hB 0 hc1, hP 4 (Qn (Fld.rows p0.fields) (List.length p0.fields) (Fld.Q5 p0.fields)), hB 0 hc1, hP 8 (Q1f 6 (Fld.rows p0.fields) i1 _ (Fld.Q9 hx1) rfl), hP 5 (Q1f 6 (Fld.rows p0.fields) i1 _ (Fld.Q9 hx1) rfl), hP 2 (dec (sLt x1.name x1.name) false (Q12j _)), hP 3 (Q1f 6 (Fld.rows p0.fields) i1 _ (Fld.Q9 hx1) rfl), hP 5 (Q1f 6 (Fld.rows p0.fields) i1 _ (Fld.Q9 hx1) rfl), hP 2 (dec (!((sLt x1.name x1.name) || (sEq x1.name x1.name))) false (by rw [(Q1au (Q2o.2 rfl))]; rfl)), hP 7 (Q1f 6 (Fld.rows p0.fields) i1 _ (Fld.Q9 hx1) rfl), hP 5 (Q1f 6 (Fld.rows p0.fields) i1 _ (Fld.Q9 hx1) rfl), hP 5 (Q1b i1 (by omega))] [aN (t_Kb false false), aN (rec x1.v (szF hx1) (H.2.1 x1 (Q1q hx1)))] (by kernel_rfl) hr
theorem Qve (p0 : Val) (H : Qd9 p0) (rec : Qe2 p0) : ∀ (r1 : List Fld) (i1 : Nat), List.drop i1 p0.fields = r1 → Q9v p0 (Qjw p0 i1) (Q10q p0 r1 i1)
 | [], i1, hd => by
  have hc1 : (decide ((i1 : Int) < ((List.length p0.fields) : Int))) = false := by have := Q10 hd; simp; omega
  show Q9v p0 _ ()
  exact Q136 p0 H rec i1 hc1
 | x1 :: r1, i1, hd => by
  obtain ⟨hx1, hi1, hd'⟩ := Qz hd
  have hc1 : (decide ((i1 : Int) < ((List.length p0.fields) : Int))) = true := by simp; omega
  show Q9v p0 _ ()
  exact Qnq p0 (fun r hr => Q11e p0 H rec x1 i1 hx1 hi1 hc1 hr) _ (Qve p0 H rec r1 (i1 + 1) hd')
theorem r_K3 (p0 : Val) (H : H_K3 p0) (rec : Qe2 p0) : Q6 G (c_K3 p0) (a_K3 p0) := by
  unfold a_K3
  rw [e_K3]
  have hl0 := Qvd p0 ((Q109 p0 H).1) rec p0.list 0 (by simp)
  obtain ⟨z0, zo0, hl0⟩ := hl0
  have hl1 := Qve p0 ((Q109 p0 H).2.1) rec p0.fields 0 (by simp)
  obtain ⟨z1, zo1, hl1⟩ := hl1
  exact Q8 (fn := Ir.K3) rfl VOK.nil [hP 7 (dec (decide (p0.kind < p0.kind)) false (decide_eq_false (Int.lt_irrefl _))), hP 4 (dec (decide (p0.kind < p0.kind)) false (decide_eq_false (Int.lt_irrefl _))), hP 8 (dec (decide (p0.n < p0.n)) false (decide_eq_false (Int.lt_irrefl _))), hP 4 (dec (decide (p0.n < p0.n)) false (decide_eq_false (Int.lt_irrefl _))), hP 8 (dec (sLt p0.s p0.s) false (Q12j _)), hP 4 (dec (!((sLt p0.s p0.s) || (sEq p0.s p0.s))) false (by rw [(Q1au (Q2o.2 rfl))]; rfl)), hP 7 (Qn (Val.rows p0.list) (List.length p0.list) (Val.Q5 p0.list)), hP 2 (Qn (Val.rows p0.list) (List.length p0.list) (Val.Q5 p0.list)), hP 0 (dec (decide (((List.length p0.list) : Int) < ((List.length p0.list) : Int))) false (decide_eq_false (Int.lt_irrefl _))), hP 2 (Qn (Val.rows p0.list) (List.length p0.list) (Val.Q5 p0.list)), hP 2 (Qn (Val.rows p0.list) (List.length p0.list) (Val.Q5 p0.list)), hP 0 (dec (decide (((List.length p0.list) : Int) < ((List.length p0.list) : Int))) false (decide_eq_false (Int.lt_irrefl _))), hP 7 (Qn (Fld.rows p0.fields) (List.length p0.fields) (Fld.Q5 p0.fields)), hP 2 (Qn (Fld.rows p0.fields) (List.length p0.fields) (Fld.Q5 p0.fields)), hP 0 (dec (decide (((List.length p0.fields) : Int) < ((List.length p0.fields) : Int))) false (decide_eq_false (Int.lt_irrefl _))), hP 2 (Qn (Fld.rows p0.fields) (List.length p0.fields) (Fld.Q5 p0.fields)), hP 2 (Qn (Fld.rows p0.fields) (List.length p0.fields) (Fld.Q5 p0.fields)), hP 0 (dec (decide (((List.length p0.fields) : Int) < ((List.length p0.fields) : Int))) false (decide_eq_false (Int.lt_irrefl _)))] [aN (t_Kb false false), aN (t_Kb false false), aN (t_Kb false false), aN hl0, aN (t_Kb false false), aN hl1, aN (t_Kb false false)] (by kernel_rfl)
theorem i_K3 : ∀ (k : Nat) (p0 : Val), SizeOf.sizeOf p0 < k → H_K3 p0 → Q6 G (c_K3 p0) (a_K3 p0)
  | 0, _, h, _ => absurd h (Nat.not_lt_zero _)
  | k + 1, p0, h, H => r_K3 p0 H (fun q hq hH => i_K3 k q (by omega) hH)
theorem t_K3 (p0 : Val) (H : H_K3 p0) : Q6 G (c_K3 p0) (a_K3 p0) := i_K3 _ p0 (Nat.lt_succ_self _) H
def s_K5 (_p0 : Val) : Bool :=
 true
def c_K5 (p0 : Val) : En := .call 27 [.agg (Val.cells p0), .agg (Val.cells p0)] []
def a_K5 (p0 : Val) : Rs := .ret (.bool (s_K5 p0)) []
def H_K5 (p0 : Val) : Prop := (H_K3 p0) ∧ True
theorem t_K5 (p0 : Val) (H : H_K5 p0) : Q6 G (c_K5 p0) (a_K5 p0) := by
 unfold a_K5 s_K5
 exact Q8 (fn := Ir.K5) rfl VOK.nil [] [aN (Q4j (c := fun y => .call 77 [.agg (Val.cells p0), .agg (Val.cells y)] []) rfl (t_K3 p0 H.1))] (by kernel_rfl)
def Q10u (p0 : List ByteArray) : List ByteArray → Nat → Unit
 | [], _i0 =>
  ()
 | _x0 :: r0, i0 =>
  Q10u p0 r0 (i0 + 1)
def Qt6 (p0 : List ByteArray) (i0 : Nat) : List PV :=
  [.sl (Qj p0), .sl (Qj p0), .un, .un, .un, .int .i64 (i0 : Int)] ++ nuns 20
def Qtr (_p0 : List ByteArray) (_i0 : Nat) : List Ob :=
  []
def Qk3 (p0 : List ByteArray) (i0 : Nat) : En := .loop 0 Ir.Qgn Ir.Q18f (Qt6 p0 i0) (Qtr p0 i0)
def Qol (_p0 : List ByteArray) (z : Nat → PV) (_zo : Nat → List PV) : St :=
  ⟨zr z 0 26, [], 256⟩
def Qa0 (p0 : List ByteArray) (e : En) (_q : Unit) : Prop := ∃ z zo, Q6 G e (.st (.exit 0) (Qol p0 z zo))
theorem Qnz (p0 : List ByteArray) {e e' : En} (h : ∀ r, Q6 G e r → Q6 G e' r) : ∀ q, Qa0 p0 e q → Qa0 p0 e' q
  | _, ⟨z, zo, hz⟩ => ⟨z, zo, h _ hz⟩
def Qky (p0 : List ByteArray) : Prop := (List.length p0 ≤ 4611686018427387904) ∧ True
def Qpd (p0 : List ByteArray) (i0 : Nat) : List PV :=
  [.sl (Qj p0), .sl (Qj p0), .un, .un, .un, .int .i64 (i0 : Int)] ++ nuns 5 ++ [.int .i64 (i0 : Int), .sl (Qj p0), .int .i64 ((List.length p0) : Int), .bool false]
def Qi3 (_p0 : List ByteArray) (_i0 : Nat) : List (Nat × List PV) :=
  []
theorem Q13j (p0 : List ByteArray) (_H : Qky p0) (i0 : Nat) (hc0 : (decide ((i0 : Int) < ((List.length p0) : Int))) = false) : Qa0 p0 (Qk3 p0 i0) () := by
 exact ⟨(envF (Qpd p0 i0)), (zoF (Qi3 p0 i0)), Qh VOK.nil (x := ((.exit 0), Qol p0 (envF (Qpd p0 i0)) (zoF (Qi3 p0 i0)))) [hP 2 (Qn (Qj p0) (List.length p0) (Q1k p0)), hB 0 hc0] [] (by kernel_rfl)⟩
theorem Q11t (p0 : List ByteArray) (H : Qky p0) (x0 : BA) (i0 : Nat) (hx0 : p0[i0]? = some x0) (hi0 : i0 < List.length p0) (hc0 : (decide ((i0 : Int) < ((List.length p0) : Int))) = true) {r : Rs} (hr : Q6 G (Qk3 p0 (i0 + 1)) r) : Q6 G (Qk3 p0 i0) r := by
 have hB0 := H.1
 exact Qb VOK.nil (y := (Qt6 p0 (i0 + 1), Qtr p0 (i0 + 1))) [hP 2 (Qn (Qj p0) (List.length p0) (Q1k p0)), hB 0 hc0, hP 2 (Q1f 1 (Qj p0) i0 _ (Q7p hx0) rfl), hP 3 (Q1f 1 (Qj p0) i0 _ (Q7p hx0) rfl), hP 1 (dec (!(sEq x0 x0)) false (by rw [(Q2o.2 rfl)]; rfl)), hP 1 (Q1b i0 (by omega))] [] (by kernel_rfl) hr
theorem Qvn (p0 : List ByteArray) (H : Qky p0) : ∀ (r0 : List ByteArray) (i0 : Nat), List.drop i0 p0 = r0 → Qa0 p0 (Qk3 p0 i0) (Q10u p0 r0 i0)
 | [], i0, hd => by
  have hc0 : (decide ((i0 : Int) < ((List.length p0) : Int))) = false := by have := Q10 hd; simp; omega
  show Qa0 p0 _ ()
  exact Q13j p0 H i0 hc0
 | x0 :: r0, i0, hd => by
  obtain ⟨hx0, hi0, hd'⟩ := Qz hd
  have hc0 : (decide ((i0 : Int) < ((List.length p0) : Int))) = true := by simp; omega
  show Qa0 p0 _ ()
  exact Qnz p0 (fun r hr => Q11t p0 H x0 i0 hx0 hi0 hc0 hr) _ (Qvn p0 H r0 (i0 + 1) hd')
def s_Kh (_p0 : List ByteArray) : Bool :=
 true
def c_Kh (p0 : List ByteArray) : En := .call 76 [.sl (Qj p0), .sl (Qj p0)] []
def a_Kh (p0 : List ByteArray) : Rs := .ret (.bool (s_Kh p0)) []
def H_Kh (p0 : List ByteArray) : Prop := (Qky p0) ∧ True
theorem t_Kh (p0 : List ByteArray) (H : H_Kh p0) : Q6 G (c_Kh p0) (a_Kh p0) := by
 unfold a_Kh s_Kh
 have hl0 := Qvn p0 (H.1) p0 0 (by simp)
 obtain ⟨z0, zo0, hl0⟩ := hl0
 exact Q8 (fn := Ir.Kh) rfl VOK.nil [hP 2 (Qn (Qj p0) (List.length p0) (Q1k p0)), hP 1 (Qn (Qj p0) (List.length p0) (Q1k p0)), hP 0 (dec (!(((List.length p0) : Int) == ((List.length p0) : Int))) false (by rw [(beq_self_eq_true _)]; rfl))] [aN hl0] (by kernel_rfl)
end Go.Proofs.YtbagpdebihicnaaGreat
end

section
/- Parts of a slice of one's own, and appends of them. -/
namespace Go.Pv
def slmE (id sz n : Nat) (lo hi : Option Int) : Option Eff := (opP (fun _ => .un) (.slice sz (.c (.ms id sz 0 n)) (optI lo) (optI hi) none)).bind fun v => some ⟨v, [], []⟩
theorem Qwl (id sz n : Nat) (k : Int) (h0 : 0 ≤ k) (h1 : k ≤ (n : Int)) : slmE id sz n none (some k) = some (vE (.ms id sz 0 k.toNat)) := by
 unfold slmE
 simp only [opP, optI, Opd.ev, Q41, asNat, Option.bind_some]
 have e0 : decide (0 ≤ k) = true := by simpa using h0
 rw [e0]
 simp only [cond_true, Option.bind_some]
 have e1 : (Nat.beq sz sz && Nat.ble 0 k.toNat && Nat.ble k.toNat n) = true := by
  rw [Nat.ble_eq_true_of_le (Nat.zero_le _), Nat.ble_eq_true_of_le (show k.toNat ≤ n by omega), Nat.beq_refl]
  rfl
 rw [e1]
 simp [vE]
theorem Qum (id sz n : Nat) (k : Int) (h0 : 0 ≤ k) (h1 : k ≤ (n : Int)) : slmE id sz n (some k) none = some (vE (.ms id sz k.toNat (n - k.toNat))) := by
 unfold slmE
 simp only [opP, optI, Opd.ev, Q41, asNat, Option.bind_some]
 have e0 : decide (0 ≤ k) = true := by simpa using h0
 rw [e0]
 simp only [cond_true, Option.bind_some]
 have e1 : (Nat.beq sz sz && Nat.ble k.toNat n && Nat.ble n n) = true := by
  rw [Nat.ble_eq_true_of_le (show k.toNat ≤ n by omega), Nat.ble_eq_true_of_le (Nat.le_refl n), Nat.beq_refl]
  rfl
 rw [e1]
 simp [vE]
theorem Qfk {sz : Nat} {rows : List (List PV)} (hs : ∀ r ∈ rows, r.length = sz) (off len : Nat) (h : off + len ≤ rows.length) :
  (rows.flatten.drop (off * sz)).take (len * sz) = ((rows.drop off).take len).flatten ∧ Nat.ble ((off + len) * sz) rows.flatten.length = true := by
 have hs' : ∀ r ∈ rows.drop off, r.length = sz := fun r hr => hs r (List.mem_of_mem_drop hr)
 have e : ∀ (l : List (List PV)) (k : Nat), (∀ r ∈ l, r.length = sz) → l.flatten.take (k * sz) = (l.take k).flatten := by
  intro l
  induction l with
  | nil => simp
  | cons q l ih =>
   intro k hl
   cases k with
   | zero => simp
   | succ k =>
    have hq := hl q List.mem_cons_self
    rw [List.flatten_cons, List.take_succ_cons, List.flatten_cons, ← ih k (fun r hr => hl r (List.mem_cons_of_mem _ hr)), show (k + 1) * sz = q.length + k * sz by rw [hq, Nat.add_mul]; omega, List.take_length_add_append]
 refine ⟨by rw [Q79 sz rows off hs, e _ _ hs'], Nat.ble_eq_true_of_le ?_⟩
 rw [Q44 sz rows hs]
 exact Nat.mul_le_mul_right _ h
def appE (id fr sz bytes ro : Nat) (gr : Bool) (rows : List (List PV)) (off len : Nat) : Option Eff := Q2r (look [(id, ⟨sz, ro, gr, rows.flatten⟩)]) fr sz bytes (.ns sz) (.ms id sz off len)
theorem Q14c (id fr sz bytes ro : Nat) (gr : Bool) (rows : List (List PV)) (off len : Nat) (hs : ∀ r ∈ rows, r.length = sz) (h : off + len ≤ rows.length) (h0 : len = 0) : appE id fr sz bytes ro gr rows off len = some ⟨.ns sz, [], [id]⟩ := by
 subst h0
 obtain ⟨_, h2⟩ := Qfk hs off 0 h
 unfold appE Q2r
 simp only [source, look, Nat.beq_refl, cond_true, Option.bind_some, Bool.true_and]
 rw [h2]
 simp
 rfl
theorem Q1ag (id fr sz bytes ro : Nat) (gr : Bool) (rows rows' : List (List PV)) (off len n' : Nat) (hs : ∀ r ∈ rows, r.length = sz) (h : off + len ≤ rows.length) (h0 : len ≠ 0) (hr : rows' = (rows.drop off).take len) (hn : n' = len) (hb : len * bytes ≤ 140737488355328) :
  appE id fr sz bytes ro gr rows off len = some ⟨.ms fr sz 0 n', [(fr, some ⟨sz, 0, true, rows'.flatten⟩)], [id]⟩ := by
 subst hr hn
 obtain ⟨h1, h2⟩ := Qfk hs off n' h
 unfold appE Q2r
 simp only [source, look, Nat.beq_refl, cond_true, Option.bind_some, Bool.true_and]
 rw [h2]
 simp only [cond_true, Option.bind_some]
 rw [Nat.ble_eq_true_of_le hb, h1]
 cases n' with
 | zero => exact absurd rfl h0
 | succ n => rfl
def Q1ae (id yid fr sz bytes ro : Nat) (cells : List PV) (yro : Nat) (ygr : Bool) (yrows : List (List PV)) (n off len : Nat) : Option Eff := Q2r (look [(id, ⟨sz, ro, true, cells⟩), (yid, ⟨sz, yro, ygr, yrows.flatten⟩)]) fr sz bytes (.ms id sz 0 n) (.ms yid sz off len)
theorem Qzj (id yid fr sz bytes ro : Nat) (cells : List PV) (rows0 : List (List PV)) (yro : Nat) (ygr : Bool) (yrows rows' : List (List PV)) (n off len n' : Nat) (hne : Nat.beq id yid = false) (hc : cells = rows0.flatten) (hn : n = rows0.length) (hn' : n' = rows'.length) (hr' : rows' = rows0 ++ (yrows.drop off).take len)
  (hs0 : ∀ r ∈ rows0, r.length = sz) (hs : ∀ r ∈ yrows, r.length = sz) (h : off + len ≤ yrows.length) (hb : (n + len) * bytes ≤ 140737488355328) :
  Q1ae id yid fr sz bytes ro cells yro ygr yrows n off len = some ⟨.ms fr sz 0 n', [(id, none), (fr, some ⟨sz, ro, true, rows'.flatten⟩)], [id, yid]⟩ := by
 subst hc hn hn' hr'
 obtain ⟨h1, h2⟩ := Qfk hs off len h
 unfold Q1ae Q2r
 simp only [source, look, hne, Nat.beq_refl, cond_true, cond_false, Option.bind_some, Bool.true_and]
 rw [h2]
 simp only [cond_true, Option.bind_some]
 rw [Nat.ble_eq_true_of_le hb, h1, cond_true, Q16b (ob := ⟨sz, ro, true, rows0.flatten⟩) (Q44 sz rows0 hs0)]
 have hl : ((yrows.drop off).take len).length = len := by simp; omega
 simp [hl]
end Go.Pv
end

section
/- Slices that are made with a length: their rows. -/
namespace Go.Pv
end Go.Pv
end

section
/- Rows of one's own: cleared behind a place, appended to from a place on. -/
namespace Go.Pv
theorem Val.Q2i (l : List Val) (k : Nat) (x : Val) : Val.rows (l.set k x) = (Val.rows l).set k (Val.cells x) := by simp [Val.Q2a, List.map_set]
theorem Fld.Q2i (l : List Fld) (k : Nat) (x : Fld) : Fld.rows (l.set k x) = (Fld.rows l).set k (Fld.cells x) := by simp [Fld.Q2a, List.map_set]
theorem Qso {l : List (List PV)} {k : Nat} {r : List PV} (h : l[k]? = some r) : l = l.set k r := by
  apply List.ext_getElem?
  intro i
  rw [List.getElem?_set]
  by_cases e : k = i
  · subst e
    rw [if_pos rfl, h, if_pos (List.getElem?_eq_some_iff.1 h).1]
  · rw [if_neg e]
end Go.Pv
end

section
/- What copying values computes (printed by a program). -/
namespace Go.Proofs.YtbagpdebihicnaaGreat
open Go.Pv
def Q1b4 (p0 : Val) : Val := p0
def Qv6 (p0 : Val) : List Val → Nat → Unit
 | [], _i0 =>
  ()
 | _x0 :: r0, i0 =>
  Qv6 p0 r0 (i0 + 1)
def Qn3 (p0 : Val) (i0 : Nat) : List PV :=
  [.un, .bx 0 0, .bx 1 0] ++ nuns 9 ++ [.ms 2 5 0 (List.length p0.list), .int .i64 ((List.length p0.list) : Int), .int .i64 (i0 : Int)] ++ nuns 33
abbrev eB : ByteArray := ⟨#[]⟩
def Qck (p0 : Val) (_i0 : Nat) : List Ob :=
  [⟨5, 0, true, [.int .i64 p0.kind, .int .i64 p0.n, .str p0.s, .ms 2 5 0 (List.length p0.list), .sl (Fld.rows p0.fields)]⟩, ⟨5, 0, true, [.int .i64 0, .int .i64 0, .str eB, .ms 3 5 0 0, .ms 4 6 0 0]⟩, ⟨5, 0, true, (Val.rows p0.list).flatten⟩, ⟨5, 0, true, []⟩, ⟨6, 0, true, []⟩]
def Qb1 (p0 : Val) (i0 : Nat) : En := .loop 0 Ir.Qde Ir.Q15u (Qn3 p0 i0) (Qck p0 i0)
def Qh5 (p0 : Val) (z : Nat → PV) (_zo : Nat → List PV) : St :=
  ⟨[z 0, .bx 0 0, .bx 1 0] ++ zr z 3 45, [(0, ⟨5, 0, true, [.int .i64 p0.kind, .int .i64 p0.n, .str p0.s, .ms 2 5 0 (List.length p0.list), .sl (Fld.rows p0.fields)]⟩), (1, ⟨5, 0, true, [.int .i64 0, .int .i64 0, .str eB, .ms 3 5 0 0, .ms 4 6 0 0]⟩), (2, ⟨5, 0, true, (Val.rows p0.list).flatten⟩), (3, ⟨5, 0, true, []⟩), (4, ⟨6, 0, true, []⟩)], 69⟩
theorem Qtw (p0 : Val) (i0 : Nat) : VOK (Go.Pv.look (number 0 (Qck p0 i0))) [(2, Val.rows p0.list)] := (VOK.cons (show Seen _ _ from Q2f (ob := ⟨5, 0, true, (Val.rows p0.list).flatten⟩) (Val.Q7 p0.list 5 rfl)) VOK.nil)
def Q7j (p0 : Val) (e : En) (_q : Unit) : Prop := ∃ z zo, Q6 G e (.st (.exit 0) (Qh5 p0 z zo))
theorem Qlc (p0 : Val) {e e' : En} (h : ∀ r, Q6 G e r → Q6 G e' r) : ∀ q, Q7j p0 e q → Q7j p0 e' q
  | _, ⟨z, zo, hz⟩ => ⟨z, zo, h _ hz⟩
def Qv7 (p0 : Val) : List Fld → Nat → Unit
 | [], _i1 =>
  ()
 | _x1 :: r1, i1 =>
  Qv7 p0 r1 (i1 + 1)
def Qn4 (p0 : Val) (i1 : Nat) : List PV :=
  [.un, .bx 0 0, .bx 1 0] ++ nuns 28 ++ [.ms 2 6 0 (List.length p0.fields), .int .i64 ((List.length p0.fields) : Int), .int .i64 (i1 : Int)] ++ nuns 14
def Qcl (p0 : Val) (_i1 : Nat) : List Ob :=
  [⟨5, 0, true, [.int .i64 p0.kind, .int .i64 p0.n, .str p0.s, .ms 3 5 0 (List.length p0.list), .ms 2 6 0 (List.length p0.fields)]⟩, ⟨5, 0, true, [.int .i64 0, .int .i64 0, .str eB, .ms 4 5 0 0, .ms 5 6 0 0]⟩, ⟨6, 0, true, (Fld.rows p0.fields).flatten⟩, ⟨5, 0, true, (Val.rows p0.list).flatten⟩, ⟨5, 0, true, []⟩, ⟨6, 0, true, []⟩]
def Qb2 (p0 : Val) (i1 : Nat) : En := .loop 0 Ir.Qdf Ir.Q15v (Qn4 p0 i1) (Qcl p0 i1)
def Qh6 (p0 : Val) (z : Nat → PV) (_zo : Nat → List PV) : St :=
  ⟨[z 0, .bx 0 0, .bx 1 0] ++ zr z 3 45, [(0, ⟨5, 0, true, [.int .i64 p0.kind, .int .i64 p0.n, .str p0.s, .ms 3 5 0 (List.length p0.list), .ms 2 6 0 (List.length p0.fields)]⟩), (1, ⟨5, 0, true, [.int .i64 0, .int .i64 0, .str eB, .ms 4 5 0 0, .ms 5 6 0 0]⟩), (2, ⟨6, 0, true, (Fld.rows p0.fields).flatten⟩), (3, ⟨5, 0, true, (Val.rows p0.list).flatten⟩), (4, ⟨5, 0, true, []⟩), (5, ⟨6, 0, true, []⟩)], 70⟩
theorem Qtx (p0 : Val) (i1 : Nat) : VOK (Go.Pv.look (number 0 (Qcl p0 i1))) [(2, Fld.rows p0.fields), (3, Val.rows p0.list)] := (VOK.cons (show Seen _ _ from Q2f (ob := ⟨6, 0, true, (Fld.rows p0.fields).flatten⟩) (Fld.Q7 p0.fields 6 rfl)) (VOK.cons (show Seen _ _ from Q2f (ob := ⟨5, 0, true, (Val.rows p0.list).flatten⟩) (Val.Q7 p0.list 5 rfl)) VOK.nil))
def Q7k (p0 : Val) (e : En) (_q : Unit) : Prop := ∃ z zo, Q6 G e (.st (.exit 2) (Qh6 p0 z zo))
theorem Qld (p0 : Val) {e e' : En} (h : ∀ r, Q6 G e r → Q6 G e' r) : ∀ q, Q7k p0 e q → Q7k p0 e' q
  | _, ⟨z, zo, hz⟩ => ⟨z, zo, h _ hz⟩
theorem Q1ez (p0 : Val) : Q1b4 p0 = (p0) := by
  rfl
def Q14f (p0 : Val) : En := .call 82 [.agg (Val.cells p0)] []
def Qzi (p0 : Val) : Rs := .ret (.agg (Val.cells (Q1b4 p0))) []
abbrev Qkr (p0 : Val) : Prop := Val.Sm 1000000000 p0
def Q83 (p0 : Val) : Prop := ∀ (q : Val), SizeOf.sizeOf q < SizeOf.sizeOf p0 → Qkr q → Q6 G (Q14f q) (Qzi q)
def Qbj (p0 : Val) : Prop := (List.length p0.list ≤ 4611686018427387904) ∧ (∀ x0 ∈ p0.list, Qkr x0) ∧ True
def Qbk (p0 : Val) : Prop := (List.length p0.fields ≤ 4611686018427387904) ∧ (∀ x1 ∈ p0.fields, Qkr x1.v) ∧ True
theorem Qcd (p0 : Val) (H : Qkr p0) : (List.length p0.list * 80 ≤ 140737488355328) ∧ (Qbj p0) ∧ (List.length p0.fields * 96 ≤ 140737488355328) ∧ (Qbk p0) ∧ True := by
  obtain ⟨h1, h2, h3, h4⟩ := H.all
  exact ⟨by omega, ⟨by omega, h3, trivial⟩, by omega, ⟨by omega, h4, trivial⟩, trivial⟩
def Qim (p0 : Val) (i0 : Nat) : List PV :=
  nuns 12 ++ [.ms 2 5 0 (List.length p0.list), .int .i64 ((List.length p0.list) : Int), .int .i64 (i0 : Int), .bool false]
def Qec (_p0 : Val) (_i0 : Nat) : List (Nat × List PV) :=
  []
theorem Qyg (p0 : Val) (_H : Qbj p0) (_rec : Q83 p0) (i0 : Nat) (hc0 : (decide ((i0 : Int) < ((List.length p0.list) : Int))) = false) : Q7j p0 (Qb1 p0 i0) () := by
 exact ⟨(envF (Qim p0 i0)), (zoF (Qec p0 i0)), Qh (Qtw p0 i0) (x := ((.exit 0), Qh5 p0 (envF (Qim p0 i0)) (zoF (Qec p0 i0)))) [hB 0 hc0] [] (by kernel_rfl)⟩
theorem Qxh (p0 : Val) (H : Qbj p0) (rec : Q83 p0) (x0 : Val) (i0 : Nat) (hx0 : p0.list[i0]? = some x0) (hi0 : i0 < List.length p0.list) (hc0 : (decide ((i0 : Int) < ((List.length p0.list) : Int))) = true) {r : Rs} (hr : Q6 G (Qb1 p0 (i0 + 1)) r) : Q6 G (Qb1 p0 i0) r := by
 have hB0 := H.1
 exact Qb (Qtw p0 i0) (y := (Qn3 p0 (i0 + 1), Qck p0 (i0 + 1))) [hB 0 hc0, hP 1 (Q2x 2 5 (List.length p0.list) (i0 : Int) i0 (by omega) (by omega) (by omega)), hP 0 (Q7r 2 5 0 true ((Val.rows p0.list).flatten) (Val.rows p0.list) 5 true i0 0 (i0 * 5) (Val.cells x0) (.agg [.int .i64 x0.kind, .int .i64 x0.n, .str x0.s, .sl (Val.rows x0.list), .sl (Fld.rows x0.fields)]) rfl rfl (Val.Q9 hx0) (Val.Qd p0.list) (by decide) rfl), hP 8 (Q2x 2 5 (List.length p0.list) (i0 : Int) i0 (by omega) (by omega) (by omega)), hV 0 [(2, Val.rows p0.list)] (Q12o 2 5 true ((Val.rows p0.list).flatten) (Val.rows p0.list) (Val.rows p0.list) 5 i0 0 (i0 * 5) _ (.agg [.int .i64 x0.kind, .int .i64 x0.n, .str x0.s, .sl (Val.rows x0.list), .sl (Fld.rows x0.fields)]) rfl rfl (Val.Q9 hx0) (Val.Qd p0.list) (by decide) rfl rfl (Qso (Val.Q9 hx0))), hS 0 true (Val.Q7 p0.list 5 rfl), hP 0 (Q1b i0 (by omega))] [aN (rec x0 (szL hx0) (H.2.1 x0 (Q1q hx0)))] (by kernel_rfl) hr
theorem Qqr (p0 : Val) (H : Qbj p0) (rec : Q83 p0) : ∀ (r0 : List Val) (i0 : Nat), List.drop i0 p0.list = r0 → Q7j p0 (Qb1 p0 i0) (Qv6 p0 r0 i0)
 | [], i0, hd => by
  have hc0 : (decide ((i0 : Int) < ((List.length p0.list) : Int))) = false := by have := Q10 hd; simp; omega
  show Q7j p0 _ ()
  exact Qyg p0 H rec i0 hc0
 | x0 :: r0, i0, hd => by
  obtain ⟨hx0, hi0, hd'⟩ := Qz hd
  have hc0 : (decide ((i0 : Int) < ((List.length p0.list) : Int))) = true := by simp; omega
  show Q7j p0 _ ()
  exact Qlc p0 (fun r hr => Qxh p0 H rec x0 i0 hx0 hi0 hc0 hr) _ (Qqr p0 H rec r0 (i0 + 1) hd')
def Qin (p0 : Val) (i1 : Nat) : List PV :=
  nuns 31 ++ [.ms 2 6 0 (List.length p0.fields), .int .i64 ((List.length p0.fields) : Int), .int .i64 (i1 : Int), .bool false]
def Qed (_p0 : Val) (_i1 : Nat) : List (Nat × List PV) :=
  []
theorem Qyh (p0 : Val) (_H : Qbk p0) (_rec : Q83 p0) (i1 : Nat) (hc1 : (decide ((i1 : Int) < ((List.length p0.fields) : Int))) = false) : Q7k p0 (Qb2 p0 i1) () := by
 exact ⟨(envF (Qin p0 i1)), (zoF (Qed p0 i1)), Qh (Qtx p0 i1) (x := ((.exit 2), Qh6 p0 (envF (Qin p0 i1)) (zoF (Qed p0 i1)))) [hB 0 hc1] [] (by kernel_rfl)⟩
theorem Qxi (p0 : Val) (H : Qbk p0) (rec : Q83 p0) (x1 : Fld) (i1 : Nat) (hx1 : p0.fields[i1]? = some x1) (hi1 : i1 < List.length p0.fields) (hc1 : (decide ((i1 : Int) < ((List.length p0.fields) : Int))) = true) {r : Rs} (hr : Q6 G (Qb2 p0 (i1 + 1)) r) : Q6 G (Qb2 p0 i1) r := by
 have hB0 := H.1
 exact Qb (Qtx p0 i1) (y := (Qn4 p0 (i1 + 1), Qcl p0 (i1 + 1))) [hB 0 hc1, hP 1 (Q2x 2 6 (List.length p0.fields) (i1 : Int) i1 (by omega) (by omega) (by omega)), hP 0 (Q7r 2 6 0 true ((Fld.rows p0.fields).flatten) (Fld.rows p0.fields) 6 true i1 0 (i1 * 6) (Fld.cells x1) (.agg [.str x1.name, .int .i64 x1.v.kind, .int .i64 x1.v.n, .str x1.v.s, .sl (Val.rows x1.v.list), .sl (Fld.rows x1.v.fields)]) rfl rfl (Fld.Q9 hx1) (Fld.Qd p0.fields) (by decide) rfl), hP 9 (Q2x 2 6 (List.length p0.fields) (i1 : Int) i1 (by omega) (by omega) (by omega)), hV 1 [(2, Fld.rows p0.fields)] (Q12o 2 6 true ((Fld.rows p0.fields).flatten) (Fld.rows p0.fields) (Fld.rows p0.fields) 5 i1 1 (i1 * 6 + 1) _ (.agg [.int .i64 x1.v.kind, .int .i64 x1.v.n, .str x1.v.s, .sl (Val.rows x1.v.list), .sl (Fld.rows x1.v.fields)]) rfl rfl (Fld.Q9 hx1) (Fld.Qd p0.fields) (by decide) rfl rfl (Qso (Fld.Q9 hx1))), hS 0 true (Fld.Q7 p0.fields 6 rfl), hP 0 (Q1b i1 (by omega))] [aN (rec x1.v (szF hx1) (H.2.1 x1 (Q1q hx1)))] (by kernel_rfl) hr
theorem Qqs (p0 : Val) (H : Qbk p0) (rec : Q83 p0) : ∀ (r1 : List Fld) (i1 : Nat), List.drop i1 p0.fields = r1 → Q7k p0 (Qb2 p0 i1) (Qv7 p0 r1 i1)
 | [], i1, hd => by
  have hc1 : (decide ((i1 : Int) < ((List.length p0.fields) : Int))) = false := by have := Q10 hd; simp; omega
  show Q7k p0 _ ()
  exact Qyh p0 H rec i1 hc1
 | x1 :: r1, i1, hd => by
  obtain ⟨hx1, hi1, hd'⟩ := Qz hd
  have hc1 : (decide ((i1 : Int) < ((List.length p0.fields) : Int))) = true := by simp; omega
  show Q7k p0 _ ()
  exact Qld p0 (fun r hr => Qxi p0 H rec x1 i1 hx1 hi1 hc1 hr) _ (Qqs p0 H rec r1 (i1 + 1) hd')
theorem Q1g9 (p0 : Val) (H : Qkr p0) (rec : Q83 p0) : Q6 G (Q14f p0) (Qzi p0) := by
  unfold Qzi
  rw [Q1ez]
  have hl0 := Qqr p0 ((Qcd p0 H).2.1) rec p0.list 0 (by simp)
  obtain ⟨z0, zo0, hl0⟩ := hl0
  have hl1 := Qqs p0 ((Qcd p0 H).2.2.2.1) rec p0.fields 0 (by simp)
  obtain ⟨z1, zo1, hl1⟩ := hl1
  exact Q8 (fn := Ir.K17) rfl VOK.nil [hQ (Val.Q7 p0.list 5 rfl), hS 0 true (Val.Q7 p0.list 5 rfl), hQ (Fld.Q7 p0.fields 6 rfl), hS 0 true (Fld.Q7 p0.fields 6 rfl), hS 0 true (Val.Q7 p0.list 5 rfl), hQ (Val.Q5 p0.list).symm, hQ (Fld.Q5 p0.fields).symm] [aV [(0, Val.rows p0.list)] (Q6o (G := G) (f := 107) (sz := 5) (bytes := 80) rfl (Val.Q5 p0.list) (Val.Q7 p0.list 5 rfl) (Qcd p0 H).1), aV [(2, Val.rows p0.list)] hl0, aV [(0, Fld.rows p0.fields)] (Q6o (G := G) (f := 78) (sz := 6) (bytes := 96) rfl (Fld.Q5 p0.fields) (Fld.Q7 p0.fields 6 rfl) (Qcd p0 H).2.2.1), aV [(2, Fld.rows p0.fields), (3, Val.rows p0.list)] hl1] (by kernel_rfl)
theorem Q1am : ∀ (k : Nat) (p0 : Val), SizeOf.sizeOf p0 < k → Qkr p0 → Q6 G (Q14f p0) (Qzi p0)
  | 0, _, h, _ => absurd h (Nat.not_lt_zero _)
  | k + 1, p0, h, H => Q1g9 p0 H (fun q hq hH => Q1am k q (by omega) hH)
theorem Q1ba (p0 : Val) (H : Qkr p0) : Q6 G (Q14f p0) (Qzi p0) := Q1am _ p0 (Nat.lt_succ_self _) H
inductive Qtv where
  | k0
  | k1 (q0 : Val)
def Q5k (p0 : Val) (p1 : BA) : List Fld → Nat → Qtv
 | [], _i0 =>
  (.k0)
 | x0 :: r0, i0 =>
  bif (sEq x0.name p1) then
   (.k1 x0.v)
  else
   Q5k p0 p1 r0 (i0 + 1)
def Qn2 (p0 : Val) (p1 : BA) (i0 : Nat) : List PV :=
  [.un, .str p1, .un, .un, .bx 0 0] ++ nuns 7 ++ [.sl (Fld.rows p0.fields), .int .i64 ((List.length p0.fields) : Int), .int .i64 (i0 : Int)] ++ nuns 12
def Qnk (_p0 : Val) (_p1 : BA) (_i0 : Nat) : List Ob :=
  [⟨5, 0, true, [.int .i64 0, .int .i64 0, .str eB, .ms 1 5 0 0, .ms 2 6 0 0]⟩, ⟨5, 0, true, []⟩, ⟨6, 0, true, []⟩]
def Q8m (p0 : Val) (p1 : BA) (i0 : Nat) : En := .loop 0 Ir.Qdc Ir.Q15s (Qn2 p0 p1 i0) (Qnk p0 p1 i0)
def Qh2 (_p0 : Val) (_p1 : BA) (z : Nat → PV) (_zo : Nat → List PV) : St :=
  ⟨[z 0, z 1, z 2, z 3, .bx 0 0] ++ zr z 5 22, [(0, ⟨5, 0, true, [.int .i64 0, .int .i64 0, .str eB, .ms 1 5 0 0, .ms 2 6 0 0]⟩), (1, ⟨5, 0, true, []⟩), (2, ⟨6, 0, true, []⟩)], 67⟩
def Qh3 (_p0 : Val) (_p1 : BA) (q0 : Val) (z : Nat → PV) (zo : Nat → List PV) : St :=
  ⟨[z 0, z 1, z 2, z 3, .bx 0 0, .bool true] ++ zr z 6 21, [(0, ⟨5, 0, true, [.int .i64 q0.kind, .int .i64 q0.n, .str q0.s, .sl (Val.rows q0.list), .sl (Fld.rows q0.fields)]⟩), (1, ⟨5, 0, true, zo 1⟩), (2, ⟨6, 0, true, zo 2⟩), (195, ⟨6, 0, true, zo 195⟩)], 899⟩
def Q8x (p0 : Val) (p1 : BA) (e : En) : Qtv → Prop
  | .k0 => ∃ z zo, Q6 G e (.st (.exit 0) (Qh2 p0 p1 z zo))
  | .k1 q0 => ∃ z zo, Q6 G e (.st .ret (Qh3 p0 p1 q0 z zo))
theorem Qlb (p0 : Val) (p1 : BA) {e e' : En} (h : ∀ r, Q6 G e r → Q6 G e' r) : ∀ q, Q8x p0 p1 e q → Q8x p0 p1 e' q
  | .k0, ⟨z, zo, hz⟩ => ⟨z, zo, h _ hz⟩
  | .k1 _, ⟨z, zo, hz⟩ => ⟨z, zo, h _ hz⟩
def Q8o (p0 : Val) (_p1 : BA) : Prop := (List.length p0.fields ≤ 4611686018427387904) ∧ (∀ x0 ∈ p0.fields, Qkr x0.v) ∧ True
def Qij (p0 : Val) (p1 : BA) (i0 : Nat) : List PV :=
  [.un, .str p1] ++ nuns 10 ++ [.sl (Fld.rows p0.fields), .int .i64 ((List.length p0.fields) : Int), .int .i64 (i0 : Int), .bool false]
def Qe9 (_p0 : Val) (_p1 : BA) (_i0 : Nat) : List (Nat × List PV) :=
  []
theorem Qyd (p0 : Val) (p1 : BA) (_H : Q8o p0 p1) (i0 : Nat) (hc0 : (decide ((i0 : Int) < ((List.length p0.fields) : Int))) = false) : Q8x p0 p1 (Q8m p0 p1 i0) (.k0) := by
 exact ⟨(envF (Qij p0 p1 i0)), (zoF (Qe9 p0 p1 i0)), Qh VOK.nil (x := ((.exit 0), Qh2 p0 p1 (envF (Qij p0 p1 i0)) (zoF (Qe9 p0 p1 i0)))) [hB 0 hc0] [] (by kernel_rfl)⟩
def Qik (p0 : Val) (p1 : BA) (i0 : Nat) (x0 : Fld) : List PV :=
  [.un, .str p1] ++ nuns 5 ++ [.bx 195 0, .un, .un, .un, .un, .sl (Fld.rows p0.fields), .int .i64 ((List.length p0.fields) : Int), .int .i64 (i0 : Int), .bool true, .rf [.str x0.name, .int .i64 x0.v.kind, .int .i64 x0.v.n, .str x0.v.s, .sl (Val.rows x0.v.list), .sl (Fld.rows x0.v.fields)], .agg [.str x0.name, .int .i64 x0.v.kind, .int .i64 x0.v.n, .str x0.v.s, .sl (Val.rows x0.v.list), .sl (Fld.rows x0.v.fields)], .bx 195 0, .str x0.name, .str p1, .bool true, .bx 195 1, .agg [.int .i64 x0.v.kind, .int .i64 x0.v.n, .str x0.v.s, .sl (Val.rows x0.v.list), .sl (Fld.rows x0.v.fields)], .agg [.int .i64 x0.v.kind, .int .i64 x0.v.n, .str x0.v.s, .sl (Val.rows x0.v.list), .sl (Fld.rows x0.v.fields)]]
def Qea (_p0 : Val) (_p1 : BA) (_i0 : Nat) (x0 : Fld) : List (Nat × List PV) :=
  [(1, []), (2, []), (195, [.str x0.name, .int .i64 x0.v.kind, .int .i64 x0.v.n, .str x0.v.s, .sl (Val.rows x0.v.list), .sl (Fld.rows x0.v.fields)])]
theorem Qye (p0 : Val) (p1 : BA) (H : Q8o p0 p1) (x0 : Fld) (i0 : Nat) (hx0 : p0.fields[i0]? = some x0) (_hi0 : i0 < List.length p0.fields) (hc0 : (decide ((i0 : Int) < ((List.length p0.fields) : Int))) = true) (h0 : (sEq x0.name p1) = true) : Q8x p0 p1 (Q8m p0 p1 i0) (.k1 x0.v) := by
 exact ⟨(envF (Qik p0 p1 i0 x0)), (zoF (Qea p0 p1 i0 x0)), Qh VOK.nil (x := (.ret, Qh3 p0 p1 x0.v (envF (Qik p0 p1 i0 x0)) (zoF (Qea p0 p1 i0 x0)))) [hB 0 hc0, hP 0 (Q1f 6 (Fld.rows p0.fields) i0 _ (Fld.Q9 hx0) rfl), hB 6 h0] [aN (Q1ba x0.v (H.2.1 x0 (Q1q hx0)))] (by kernel_rfl)⟩
theorem Qxd (p0 : Val) (p1 : BA) (H : Q8o p0 p1) (x0 : Fld) (i0 : Nat) (hx0 : p0.fields[i0]? = some x0) (hi0 : i0 < List.length p0.fields) (hc0 : (decide ((i0 : Int) < ((List.length p0.fields) : Int))) = true) (h0 : (sEq x0.name p1) = false) {r : Rs} (hr : Q6 G (Q8m p0 p1 (i0 + 1)) r) : Q6 G (Q8m p0 p1 i0) r := by
 have hB0 := H.1
 exact Qb VOK.nil (y := (Qn2 p0 p1 (i0 + 1), Qnk p0 p1 (i0 + 1))) [hB 0 hc0, hP 0 (Q1f 6 (Fld.rows p0.fields) i0 _ (Fld.Q9 hx0) rfl), hB 6 h0, hP 0 (Q1b i0 (by omega))] [] (by kernel_rfl) hr
theorem Qqq (p0 : Val) (p1 : BA) (H : Q8o p0 p1) : ∀ (r0 : List Fld) (i0 : Nat), List.drop i0 p0.fields = r0 → Q8x p0 p1 (Q8m p0 p1 i0) (Q5k p0 p1 r0 i0)
 | [], i0, hd => by
  have hc0 : (decide ((i0 : Int) < ((List.length p0.fields) : Int))) = false := by have := Q10 hd; simp; omega
  rw [Q5k]
  exact Qyd p0 p1 H i0 hc0
 | x0 :: r0, i0, hd => by
  obtain ⟨hx0, hi0, hd'⟩ := Qz hd
  have hc0 : (decide ((i0 : Int) < ((List.length p0.fields) : Int))) = true := by simp; omega
  rw [Q5k]
  cases h0 : (sEq x0.name p1) with
  | true =>
   exact Qye p0 p1 H x0 i0 hx0 hi0 hc0 h0
  | false =>
   exact Qlb p0 p1 (fun r hr => Qxd p0 p1 H x0 i0 hx0 hi0 hc0 h0 hr) _ (Qqq p0 p1 H r0 (i0 + 1) hd')
def Qy1 (p0 : Val) (p1 : BA) : Val × Bool :=
 bif (p0.kind == 5) then
  (match (Q5k p0 p1 p0.fields 0) with
  | .k0 => ((Val.mk 0 0 eB [] []), false)
  | .k1 y1_0 => (y1_0, true))
 else
  ((Val.mk 0 0 eB [] []), false)
def Q1dk (p0 : Val) (p1 : BA) : En := .call 102 [.agg (Val.cells p0), .str p1] []
def Q18z (p0 : Val) (p1 : BA) : Rs := .ret (.tup [.agg (Val.cells (Qy1 p0 p1).1), .bool (Qy1 p0 p1).2]) []
def Q16l (p0 : Val) (p1 : BA) : Prop := (Q8o p0 p1) ∧ True
theorem Q1h4 (p0 : Val) (p1 : BA) (H : Q16l p0 p1) : Q6 G (Q1dk p0 p1) (Q18z p0 p1) := by
 unfold Q18z Qy1
 cases h0 : (p0.kind == 5) with
 | true =>
  have hl1 := Qqq p0 p1 (H.1) p0.fields 0 (by simp)
  cases hr1 : (Q5k p0 p1 p0.fields 0) with
  | k0 =>
   rw [hr1] at hl1
   obtain ⟨z1, zo1, hl1⟩ := hl1
   exact Q8 (fn := Ir.K12) rfl VOK.nil [hB 5 h0, hP 2 (Qn (Fld.rows p0.fields) (List.length p0.fields) (Fld.Q5 p0.fields))] [aN hl1] (by kernel_rfl)
  | k1 y1_0 =>
   rw [hr1] at hl1
   obtain ⟨z1, zo1, hl1⟩ := hl1
   exact Q8 (fn := Ir.K12) rfl VOK.nil [hB 5 h0, hP 2 (Qn (Fld.rows p0.fields) (List.length p0.fields) (Fld.Q5 p0.fields))] [aN hl1] (by kernel_rfl)
 | false =>
  exact Q8 (fn := Ir.K12) rfl VOK.nil [hB 5 h0] [] (by kernel_rfl)
end Go.Proofs.YtbagpdebihicnaaGreat
end

section
/- What building a map computes (printed by a program). -/
namespace Go.Proofs.YtbagpdebihicnaaGreat
open Go.Pv
def Q17u (p0 : BA) (p1 : BA) : Int :=
 (sCmp p0 p1)
def Q1di (p0 : BA) (p1 : BA) : En := .call 81 [.str p0, .str p1] []
def Q18x (p0 : BA) (p1 : BA) : Rs := .ret (.int .i64 (Q17u p0 p1)) []
theorem Q1h2 (p0 : BA) (p1 : BA) : Q6 G (Q1di p0 p1) (Q18x p0 p1) := by
 unfold Q18x Q17u
 exact Q8 (fn := Ir.K10) rfl VOK.nil [] [aN (Q15q p0 p1)] (by kernel_rfl)
def Qrm (p0 : Fld) (p1 : Fld) : Int :=
 (Q17u p0.name p1.name)
def Q1dm (p0 : Fld) (p1 : Fld) : En := .call 80 [.agg (Fld.cells p0), .agg (Fld.cells p1)] []
def Q192 (p0 : Fld) (p1 : Fld) : Rs := .ret (.int .i64 (Qrm p0 p1)) []
theorem Q1b8 (p0 : Fld) (p1 : Fld) : Q6 G (Q1dm p0 p1) (Q192 p0 p1) := by
 unfold Q192 Qrm
 exact Q8 (fn := Ir.K15) rfl VOK.nil [] [aN (Q1h2 p0.name p1.name)] (by kernel_rfl)
abbrev zF : Fld := (Fld.mk eB (Val.mk 0 0 eB [] []))
def Q2l (n0 : Nat) (p1 : Int) (p2 : Int) (v0_0 : Int) : Nat → (List Fld) → Int → List Fld
 | 0, v1_0, _v1_1 => v1_0
 | k1 + 1, v1_0, v1_1 =>
  bif (decide (p1 < v1_1)) then
   bif (decide ((Qrm (List.getD v1_0 (Int.toNat v1_1) zF) (List.getD v1_0 (Int.toNat (v1_1 - 1)) zF)) < 0)) then
    Q2l n0 p1 p2 v0_0 k1 (List.set (List.set v1_0 (Int.toNat v1_1) (List.getD v1_0 (Int.toNat (v1_1 - 1)) zF)) (Int.toNat (v1_1 - 1)) (List.getD v1_0 (Int.toNat v1_1) zF)) (v1_1 - 1)
   else
    v1_0
  else
   v1_0
def Qtg (n0 : Nat) (p1 : Int) (p2 : Int) (v0_0 : Int) (_v1_0 : List Fld) (v1_1 : Int) : List PV :=
  [.ms 0 6 0 n0, .int .i64 p1, .int .i64 p2, .fn 80 [] [], .un, .un, .un, .un, .int .i64 v0_0, .int .i64 v1_1] ++ nuns 43
def Qkp (_n0 : Nat) (_p1 : Int) (_p2 : Int) (_v0_0 : Int) (v1_0 : List Fld) (_v1_1 : Int) : List Ob :=
  [⟨6, 0, false, (Fld.rows v1_0).flatten⟩]
def Q9n (n0 : Nat) (p1 : Int) (p2 : Int) (v0_0 : Int) (v1_0 : List Fld) (v1_1 : Int) : En := .loop 1 Ir.Qgy Ir.Q18q (Qtg n0 p1 p2 v0_0 v1_0 v1_1) (Qkp n0 p1 p2 v0_0 v1_0 v1_1)
def Q8z (n0 : Nat) (p1 : Int) (p2 : Int) (v0_0 : Int) (q0 : List Fld) (z : Nat → PV) (_zo : Nat → List PV) : St :=
  ⟨[.ms 0 6 0 n0, .int .i64 p1, .int .i64 p2, .fn 80 [] [], z 4, z 5, z 6, z 7, .int .i64 v0_0] ++ zr z 9 44, [(0, ⟨6, 0, false, (Fld.rows q0).flatten⟩)], 1089⟩
theorem Qrx (n0 : Nat) (p1 : Int) (p2 : Int) (v0_0 : Int) (v1_0 : List Fld) (v1_1 : Int) : VOK (Go.Pv.look (number 0 (Qkp n0 p1 p2 v0_0 v1_0 v1_1))) [(0, Fld.rows v1_0)] := (VOK.cons (show Seen _ _ from Q2f (ob := ⟨6, 0, false, (Fld.rows v1_0).flatten⟩) (Fld.Q7 v1_0 6 rfl)) VOK.nil)
def Qe0 (n0 : Nat) (p1 : Int) (p2 : Int) (v0_0 : Int) (e : En) (q : List Fld) : Prop := ∃ z zo, Q6 G e (.st (.exit 2) (Q8z n0 p1 p2 v0_0 q z zo))
theorem Qo9 (n0 : Nat) (p1 : Int) (p2 : Int) (v0_0 : Int) {e e' : En} (h : ∀ r, Q6 G e r → Q6 G e' r) : ∀ q, Qe0 n0 p1 p2 v0_0 e q → Qe0 n0 p1 p2 v0_0 e' q
  | _, ⟨z, zo, hz⟩ => ⟨z, zo, h _ hz⟩
theorem Q125 (n0 : Nat) (p1 : Int) (p2 : Int) (v0_0 : Int) (v1_0 : List Fld) (v1_1 : Int) (ho1_0 : 0 ≤ p1) (_ho1_1 : p1 ≤ v1_1) (ho1_2 : v1_1 < n0) (ho1_3 : (n0 : Int) ≤ 20) (ho1_4 : List.length v1_0 = n0) (h0 : (decide (p1 < v1_1)) = true) (h1 : (decide ((Qrm (List.getD v1_0 (Int.toNat v1_1) zF) (List.getD v1_0 (Int.toNat (v1_1 - 1)) zF)) < 0)) = true) {r : Rs} (hr : Q6 G (Q9n n0 p1 p2 v0_0 (List.set (List.set v1_0 (Int.toNat v1_1) (List.getD v1_0 (Int.toNat (v1_1 - 1)) zF)) (Int.toNat (v1_1 - 1)) (List.getD v1_0 (Int.toNat v1_1) zF)) (v1_1 - 1)) r) : Q6 G (Q9n n0 p1 p2 v0_0 v1_0 v1_1) r := by
 have e0 := of_decide_eq_true h0; have e1 := of_decide_eq_true h1
 exact Qb (Qrx n0 p1 p2 v0_0 v1_0 v1_1) (y := (Qtg n0 p1 p2 v0_0 (List.set (List.set v1_0 (Int.toNat v1_1) (List.getD v1_0 (Int.toNat (v1_1 - 1)) zF)) (Int.toNat (v1_1 - 1)) (List.getD v1_0 (Int.toNat v1_1) zF)) (v1_1 - 1), Qkp n0 p1 p2 v0_0 (List.set (List.set v1_0 (Int.toNat v1_1) (List.getD v1_0 (Int.toNat (v1_1 - 1)) zF)) (Int.toNat (v1_1 - 1)) (List.getD v1_0 (Int.toNat v1_1) zF)) (v1_1 - 1))) [hB 2 h0, hP 4 (Q2x 0 6 n0 v1_1 (Int.toNat v1_1) rfl (by omega) (by omega)), hP 0 (Q7r 0 6 0 false ((Fld.rows v1_0).flatten) (Fld.rows v1_0) 6 true (Int.toNat v1_1) 0 ((Int.toNat v1_1) * 6) (Fld.cells (List.getD v1_0 (Int.toNat v1_1) zF)) (.agg [.str (List.getD v1_0 (Int.toNat v1_1) zF).name, .int .i64 (List.getD v1_0 (Int.toNat v1_1) zF).v.kind, .int .i64 (List.getD v1_0 (Int.toNat v1_1) zF).v.n, .str (List.getD v1_0 (Int.toNat v1_1) zF).v.s, .sl (Val.rows (List.getD v1_0 (Int.toNat v1_1) zF).v.list), .sl (Fld.rows (List.getD v1_0 (Int.toNat v1_1) zF).v.fields)]) rfl rfl (Fld.Q9 (Q39 v1_0 (Int.toNat v1_1) zF (by omega))) (Fld.Qd v1_0) (by decide) rfl), hP 2 (w_ok (v1_1 - 1) (by omega)), hP 0 (Q2x 0 6 n0 (v1_1 - 1) (Int.toNat (v1_1 - 1)) rfl (by omega) (by omega)), hP 0 (Q7r 0 6 0 false ((Fld.rows v1_0).flatten) (Fld.rows v1_0) 6 true (Int.toNat (v1_1 - 1)) 0 ((Int.toNat (v1_1 - 1)) * 6) (Fld.cells (List.getD v1_0 (Int.toNat (v1_1 - 1)) zF)) (.agg [.str (List.getD v1_0 (Int.toNat (v1_1 - 1)) zF).name, .int .i64 (List.getD v1_0 (Int.toNat (v1_1 - 1)) zF).v.kind, .int .i64 (List.getD v1_0 (Int.toNat (v1_1 - 1)) zF).v.n, .str (List.getD v1_0 (Int.toNat (v1_1 - 1)) zF).v.s, .sl (Val.rows (List.getD v1_0 (Int.toNat (v1_1 - 1)) zF).v.list), .sl (Fld.rows (List.getD v1_0 (Int.toNat (v1_1 - 1)) zF).v.fields)]) rfl rfl (Fld.Q9 (Q39 v1_0 (Int.toNat (v1_1 - 1)) zF (by omega))) (Fld.Qd v1_0) (by decide) rfl), hB 1 h1, hP 5 (w_ok (v1_1 - 1) (by omega)), hP 2 (w_ok (v1_1 - 1) (by omega)), hP 0 (Q2x 0 6 n0 (v1_1 - 1) (Int.toNat (v1_1 - 1)) rfl (by omega) (by omega)), hP 0 (Q7r 0 6 0 false ((Fld.rows v1_0).flatten) (Fld.rows v1_0) 6 true (Int.toNat (v1_1 - 1)) 0 ((Int.toNat (v1_1 - 1)) * 6) (Fld.cells (List.getD v1_0 (Int.toNat (v1_1 - 1)) zF)) (.agg [.str (List.getD v1_0 (Int.toNat (v1_1 - 1)) zF).name, .int .i64 (List.getD v1_0 (Int.toNat (v1_1 - 1)) zF).v.kind, .int .i64 (List.getD v1_0 (Int.toNat (v1_1 - 1)) zF).v.n, .str (List.getD v1_0 (Int.toNat (v1_1 - 1)) zF).v.s, .sl (Val.rows (List.getD v1_0 (Int.toNat (v1_1 - 1)) zF).v.list), .sl (Fld.rows (List.getD v1_0 (Int.toNat (v1_1 - 1)) zF).v.fields)]) rfl rfl (Fld.Q9 (Q39 v1_0 (Int.toNat (v1_1 - 1)) zF (by omega))) (Fld.Qd v1_0) (by decide) rfl), hP 2 (Q2x 0 6 n0 v1_1 (Int.toNat v1_1) rfl (by omega) (by omega)), hP 0 (Q7r 0 6 0 false ((Fld.rows v1_0).flatten) (Fld.rows v1_0) 6 true (Int.toNat v1_1) 0 ((Int.toNat v1_1) * 6) (Fld.cells (List.getD v1_0 (Int.toNat v1_1) zF)) (.agg [.str (List.getD v1_0 (Int.toNat v1_1) zF).name, .int .i64 (List.getD v1_0 (Int.toNat v1_1) zF).v.kind, .int .i64 (List.getD v1_0 (Int.toNat v1_1) zF).v.n, .str (List.getD v1_0 (Int.toNat v1_1) zF).v.s, .sl (Val.rows (List.getD v1_0 (Int.toNat v1_1) zF).v.list), .sl (Fld.rows (List.getD v1_0 (Int.toNat v1_1) zF).v.fields)]) rfl rfl (Fld.Q9 (Q39 v1_0 (Int.toNat v1_1) zF (by omega))) (Fld.Qd v1_0) (by decide) rfl), hP 0 (Q2x 0 6 n0 v1_1 (Int.toNat v1_1) rfl (by omega) (by omega)), hV 0 [(0, Fld.rows (List.set v1_0 (Int.toNat v1_1) (List.getD v1_0 (Int.toNat (v1_1 - 1)) zF)))] (Q12o 0 6 false ((Fld.rows v1_0).flatten) (Fld.rows v1_0) (Fld.rows (List.set v1_0 (Int.toNat v1_1) (List.getD v1_0 (Int.toNat (v1_1 - 1)) zF))) 6 (Int.toNat v1_1) 0 ((Int.toNat v1_1) * 6) _ (.agg [.str (List.getD v1_0 (Int.toNat (v1_1 - 1)) zF).name, .int .i64 (List.getD v1_0 (Int.toNat (v1_1 - 1)) zF).v.kind, .int .i64 (List.getD v1_0 (Int.toNat (v1_1 - 1)) zF).v.n, .str (List.getD v1_0 (Int.toNat (v1_1 - 1)) zF).v.s, .sl (Val.rows (List.getD v1_0 (Int.toNat (v1_1 - 1)) zF).v.list), .sl (Fld.rows (List.getD v1_0 (Int.toNat (v1_1 - 1)) zF).v.fields)]) rfl rfl (Fld.Q9 (Q39 v1_0 (Int.toNat v1_1) zF (by omega))) (Fld.Qd v1_0) (by decide) rfl rfl (Fld.Q2i v1_0 (Int.toNat v1_1) (List.getD v1_0 (Int.toNat (v1_1 - 1)) zF))), hS 0 false (Fld.Q7 (List.set v1_0 (Int.toNat v1_1) (List.getD v1_0 (Int.toNat (v1_1 - 1)) zF)) 6 rfl), hP 0 (Q2x 0 6 n0 (v1_1 - 1) (Int.toNat (v1_1 - 1)) rfl (by have f0 := (Q3s ho1_4 (Int.toNat v1_1) (List.getD v1_0 (Int.toNat (v1_1 - 1)) zF)); omega) (by have f0 := (Q3s ho1_4 (Int.toNat v1_1) (List.getD v1_0 (Int.toNat (v1_1 - 1)) zF)); omega)), hV 0 [(0, Fld.rows (List.set (List.set v1_0 (Int.toNat v1_1) (List.getD v1_0 (Int.toNat (v1_1 - 1)) zF)) (Int.toNat (v1_1 - 1)) (List.getD v1_0 (Int.toNat v1_1) zF)))] (Q12o 0 6 false ((Fld.rows (List.set v1_0 (Int.toNat v1_1) (List.getD v1_0 (Int.toNat (v1_1 - 1)) zF))).flatten) (Fld.rows (List.set v1_0 (Int.toNat v1_1) (List.getD v1_0 (Int.toNat (v1_1 - 1)) zF))) (Fld.rows (List.set (List.set v1_0 (Int.toNat v1_1) (List.getD v1_0 (Int.toNat (v1_1 - 1)) zF)) (Int.toNat (v1_1 - 1)) (List.getD v1_0 (Int.toNat v1_1) zF))) 6 (Int.toNat (v1_1 - 1)) 0 ((Int.toNat (v1_1 - 1)) * 6) _ (.agg [.str (List.getD v1_0 (Int.toNat v1_1) zF).name, .int .i64 (List.getD v1_0 (Int.toNat v1_1) zF).v.kind, .int .i64 (List.getD v1_0 (Int.toNat v1_1) zF).v.n, .str (List.getD v1_0 (Int.toNat v1_1) zF).v.s, .sl (Val.rows (List.getD v1_0 (Int.toNat v1_1) zF).v.list), .sl (Fld.rows (List.getD v1_0 (Int.toNat v1_1) zF).v.fields)]) rfl rfl (Fld.Q9 (Q39 (List.set v1_0 (Int.toNat v1_1) (List.getD v1_0 (Int.toNat (v1_1 - 1)) zF)) (Int.toNat (v1_1 - 1)) zF (by have f0 := (Q3s ho1_4 (Int.toNat v1_1) (List.getD v1_0 (Int.toNat (v1_1 - 1)) zF)); try simp only [List.length_set]; omega))) (Fld.Qd (List.set v1_0 (Int.toNat v1_1) (List.getD v1_0 (Int.toNat (v1_1 - 1)) zF))) (by decide) rfl rfl (Fld.Q2i (List.set v1_0 (Int.toNat v1_1) (List.getD v1_0 (Int.toNat (v1_1 - 1)) zF)) (Int.toNat (v1_1 - 1)) (List.getD v1_0 (Int.toNat v1_1) zF))), hS 0 false (Fld.Q7 (List.set (List.set v1_0 (Int.toNat v1_1) (List.getD v1_0 (Int.toNat (v1_1 - 1)) zF)) (Int.toNat (v1_1 - 1)) (List.getD v1_0 (Int.toNat v1_1) zF)) 6 rfl), hP 1 (w_ok (v1_1 - 1) (by have f0 := (Q3s (Q3s ho1_4 (Int.toNat v1_1) (List.getD v1_0 (Int.toNat (v1_1 - 1)) zF)) (Int.toNat (v1_1 - 1)) (List.getD v1_0 (Int.toNat v1_1) zF)); omega))] [aN (Q1b8 (List.getD v1_0 (Int.toNat v1_1) zF) (List.getD v1_0 (Int.toNat (v1_1 - 1)) zF))] (by kernel_rfl) hr
def Qpp (n0 : Nat) (p1 : Int) (_p2 : Int) (_v0_0 : Int) (v1_0 : List Fld) (v1_1 : Int) : List PV :=
  nuns 9 ++ [.int .i64 v1_1] ++ nuns 8 ++ [.int .i64 v1_1, .int .i64 p1, .bool true, .bool true, .fn 80 [] [], .ms 0 6 0 n0, .int .i64 v1_1, .bx 0 ((Int.toNat v1_1) * 6), .agg [.str (List.getD v1_0 (Int.toNat v1_1) zF).name, .int .i64 (List.getD v1_0 (Int.toNat v1_1) zF).v.kind, .int .i64 (List.getD v1_0 (Int.toNat v1_1) zF).v.n, .str (List.getD v1_0 (Int.toNat v1_1) zF).v.s, .sl (Val.rows (List.getD v1_0 (Int.toNat v1_1) zF).v.list), .sl (Fld.rows (List.getD v1_0 (Int.toNat v1_1) zF).v.fields)], .ms 0 6 0 n0, .int .i64 v1_1, .int .i64 (v1_1 - 1), .bx 0 ((Int.toNat (v1_1 - 1)) * 6), .agg [.str (List.getD v1_0 (Int.toNat (v1_1 - 1)) zF).name, .int .i64 (List.getD v1_0 (Int.toNat (v1_1 - 1)) zF).v.kind, .int .i64 (List.getD v1_0 (Int.toNat (v1_1 - 1)) zF).v.n, .str (List.getD v1_0 (Int.toNat (v1_1 - 1)) zF).v.s, .sl (Val.rows (List.getD v1_0 (Int.toNat (v1_1 - 1)) zF).v.list), .sl (Fld.rows (List.getD v1_0 (Int.toNat (v1_1 - 1)) zF).v.fields)], .int .i64 (Qrm (List.getD v1_0 (Int.toNat v1_1) zF) (List.getD v1_0 (Int.toNat (v1_1 - 1)) zF)), .bool false, .bool false]
def Qif (_n0 : Nat) (_p1 : Int) (_p2 : Int) (_v0_0 : Int) (_v1_0 : List Fld) (_v1_1 : Int) : List (Nat × List PV) :=
  []
theorem Q13v (n0 : Nat) (p1 : Int) (p2 : Int) (v0_0 : Int) (v1_0 : List Fld) (v1_1 : Int) (ho1_0 : 0 ≤ p1) (_ho1_1 : p1 ≤ v1_1) (ho1_2 : v1_1 < n0) (ho1_3 : (n0 : Int) ≤ 20) (ho1_4 : List.length v1_0 = n0) (h0 : (decide (p1 < v1_1)) = true) (h1 : (decide ((Qrm (List.getD v1_0 (Int.toNat v1_1) zF) (List.getD v1_0 (Int.toNat (v1_1 - 1)) zF)) < 0)) = false) : Qe0 n0 p1 p2 v0_0 (Q9n n0 p1 p2 v0_0 v1_0 v1_1) v1_0 := by
 have e0 := of_decide_eq_true h0; have e1 := of_decide_eq_false h1
 exact ⟨(envF (Qpp n0 p1 p2 v0_0 v1_0 v1_1)), (zoF (Qif n0 p1 p2 v0_0 v1_0 v1_1)), Qh (Qrx n0 p1 p2 v0_0 v1_0 v1_1) (x := ((.exit 2), Q8z n0 p1 p2 v0_0 v1_0 (envF (Qpp n0 p1 p2 v0_0 v1_0 v1_1)) (zoF (Qif n0 p1 p2 v0_0 v1_0 v1_1)))) [hB 2 h0, hP 4 (Q2x 0 6 n0 v1_1 (Int.toNat v1_1) rfl (by omega) (by omega)), hP 0 (Q7r 0 6 0 false ((Fld.rows v1_0).flatten) (Fld.rows v1_0) 6 true (Int.toNat v1_1) 0 ((Int.toNat v1_1) * 6) (Fld.cells (List.getD v1_0 (Int.toNat v1_1) zF)) (.agg [.str (List.getD v1_0 (Int.toNat v1_1) zF).name, .int .i64 (List.getD v1_0 (Int.toNat v1_1) zF).v.kind, .int .i64 (List.getD v1_0 (Int.toNat v1_1) zF).v.n, .str (List.getD v1_0 (Int.toNat v1_1) zF).v.s, .sl (Val.rows (List.getD v1_0 (Int.toNat v1_1) zF).v.list), .sl (Fld.rows (List.getD v1_0 (Int.toNat v1_1) zF).v.fields)]) rfl rfl (Fld.Q9 (Q39 v1_0 (Int.toNat v1_1) zF (by omega))) (Fld.Qd v1_0) (by decide) rfl), hP 2 (w_ok (v1_1 - 1) (by omega)), hP 0 (Q2x 0 6 n0 (v1_1 - 1) (Int.toNat (v1_1 - 1)) rfl (by omega) (by omega)), hP 0 (Q7r 0 6 0 false ((Fld.rows v1_0).flatten) (Fld.rows v1_0) 6 true (Int.toNat (v1_1 - 1)) 0 ((Int.toNat (v1_1 - 1)) * 6) (Fld.cells (List.getD v1_0 (Int.toNat (v1_1 - 1)) zF)) (.agg [.str (List.getD v1_0 (Int.toNat (v1_1 - 1)) zF).name, .int .i64 (List.getD v1_0 (Int.toNat (v1_1 - 1)) zF).v.kind, .int .i64 (List.getD v1_0 (Int.toNat (v1_1 - 1)) zF).v.n, .str (List.getD v1_0 (Int.toNat (v1_1 - 1)) zF).v.s, .sl (Val.rows (List.getD v1_0 (Int.toNat (v1_1 - 1)) zF).v.list), .sl (Fld.rows (List.getD v1_0 (Int.toNat (v1_1 - 1)) zF).v.fields)]) rfl rfl (Fld.Q9 (Q39 v1_0 (Int.toNat (v1_1 - 1)) zF (by omega))) (Fld.Qd v1_0) (by decide) rfl), hB 1 h1] [aN (Q1b8 (List.getD v1_0 (Int.toNat v1_1) zF) (List.getD v1_0 (Int.toNat (v1_1 - 1)) zF))] (by kernel_rfl)⟩
def Qpq (_n0 : Nat) (p1 : Int) (_p2 : Int) (_v0_0 : Int) (_v1_0 : List Fld) (v1_1 : Int) : List PV :=
  nuns 9 ++ [.int .i64 v1_1] ++ nuns 8 ++ [.int .i64 v1_1, .int .i64 p1, .bool false, .bool false, .tup [], .tup [], .tup [], .tup [], .tup [], .tup [], .tup [], .tup [], .tup [], .tup [], .tup [], .tup [], .bool false]
def Qig (_n0 : Nat) (_p1 : Int) (_p2 : Int) (_v0_0 : Int) (_v1_0 : List Fld) (_v1_1 : Int) : List (Nat × List PV) :=
  []
theorem Q13w (n0 : Nat) (p1 : Int) (p2 : Int) (v0_0 : Int) (v1_0 : List Fld) (v1_1 : Int) (_ho1_0 : 0 ≤ p1) (_ho1_1 : p1 ≤ v1_1) (_ho1_2 : v1_1 < n0) (_ho1_3 : (n0 : Int) ≤ 20) (_ho1_4 : List.length v1_0 = n0) (h0 : (decide (p1 < v1_1)) = false) : Qe0 n0 p1 p2 v0_0 (Q9n n0 p1 p2 v0_0 v1_0 v1_1) v1_0 := by
 exact ⟨(envF (Qpq n0 p1 p2 v0_0 v1_0 v1_1)), (zoF (Qig n0 p1 p2 v0_0 v1_0 v1_1)), Qh (Qrx n0 p1 p2 v0_0 v1_0 v1_1) (x := ((.exit 2), Q8z n0 p1 p2 v0_0 v1_0 (envF (Qpq n0 p1 p2 v0_0 v1_0 v1_1)) (zoF (Qig n0 p1 p2 v0_0 v1_0 v1_1)))) [hB 2 h0] [] (by kernel_rfl)⟩
theorem Qvx (n0 : Nat) (p1 : Int) (p2 : Int) (v0_0 : Int) : ∀ (k1 : Nat) (v1_0 : List Fld) (v1_1 : Int), 0 ≤ p1 → p1 ≤ v1_1 → v1_1 < n0 → (n0 : Int) ≤ 20 → List.length v1_0 = n0 → Int.toNat v1_1 < k1 → Qe0 n0 p1 p2 v0_0 (Q9n n0 p1 p2 v0_0 v1_0 v1_1) (Q2l n0 p1 p2 v0_0 k1 v1_0 v1_1)
 | 0, v1_0, v1_1, _, _, _, _, _, hm => absurd hm (Nat.not_lt_zero _)
 | k1 + 1, v1_0, v1_1, ho1_0, ho1_1, ho1_2, ho1_3, ho1_4, hm => by
  rw [Q2l]
  cases h0 : (decide (p1 < v1_1)) with
  | true =>
   have e0 := of_decide_eq_true h0
   cases h1 : (decide ((Qrm (List.getD v1_0 (Int.toNat v1_1) zF) (List.getD v1_0 (Int.toNat (v1_1 - 1)) zF)) < 0)) with
   | true =>
    have e1 := of_decide_eq_true h1
    exact Qo9 n0 p1 p2 v0_0 (fun r hr => Q125 n0 p1 p2 v0_0 v1_0 v1_1 ho1_0 ho1_1 ho1_2 ho1_3 ho1_4 h0 h1 hr) _ (Qvx n0 p1 p2 v0_0 k1 (List.set (List.set v1_0 (Int.toNat v1_1) (List.getD v1_0 (Int.toNat (v1_1 - 1)) zF)) (Int.toNat (v1_1 - 1)) (List.getD v1_0 (Int.toNat v1_1) zF)) (v1_1 - 1) (by have f0 := (Q3s (Q3s ho1_4 (Int.toNat v1_1) (List.getD v1_0 (Int.toNat (v1_1 - 1)) zF)) (Int.toNat (v1_1 - 1)) (List.getD v1_0 (Int.toNat v1_1) zF)); omega) (by have f0 := (Q3s (Q3s ho1_4 (Int.toNat v1_1) (List.getD v1_0 (Int.toNat (v1_1 - 1)) zF)) (Int.toNat (v1_1 - 1)) (List.getD v1_0 (Int.toNat v1_1) zF)); omega) (by have f0 := (Q3s (Q3s ho1_4 (Int.toNat v1_1) (List.getD v1_0 (Int.toNat (v1_1 - 1)) zF)) (Int.toNat (v1_1 - 1)) (List.getD v1_0 (Int.toNat v1_1) zF)); omega) (by have f0 := (Q3s (Q3s ho1_4 (Int.toNat v1_1) (List.getD v1_0 (Int.toNat (v1_1 - 1)) zF)) (Int.toNat (v1_1 - 1)) (List.getD v1_0 (Int.toNat v1_1) zF)); omega) (Q3s (Q3s ho1_4 (Int.toNat v1_1) (List.getD v1_0 (Int.toNat (v1_1 - 1)) zF)) (Int.toNat (v1_1 - 1)) (List.getD v1_0 (Int.toNat v1_1) zF)) (by have f0 := (Q3s (Q3s ho1_4 (Int.toNat v1_1) (List.getD v1_0 (Int.toNat (v1_1 - 1)) zF)) (Int.toNat (v1_1 - 1)) (List.getD v1_0 (Int.toNat v1_1) zF)); omega))
   | false =>
    exact Q13v n0 p1 p2 v0_0 v1_0 v1_1 ho1_0 ho1_1 ho1_2 ho1_3 ho1_4 h0 h1
  | false =>
   exact Q13w n0 p1 p2 v0_0 v1_0 v1_1 ho1_0 ho1_1 ho1_2 ho1_3 ho1_4 h0
theorem Q2q (n0 : Nat) (p1 : Int) (p2 : Int) (v0_0 : Int) : ∀ (k1 : Nat) (v1_0 : List Fld) (v1_1 : Int), List.length v1_0 = n0 → List.length (Q2l n0 p1 p2 v0_0 k1 v1_0 v1_1) = n0
 | 0, v1_0, v1_1, ho1_4 => by rw [Q2l]; exact ho1_4
 | k1 + 1, v1_0, v1_1, ho1_4 => by
  rw [Q2l]
  cases h0 : (decide (p1 < v1_1)) with
  | true =>
   cases h1 : (decide ((Qrm (List.getD v1_0 (Int.toNat v1_1) zF) (List.getD v1_0 (Int.toNat (v1_1 - 1)) zF)) < 0)) with
   | true =>
    exact Q2q n0 p1 p2 v0_0 k1 (List.set (List.set v1_0 (Int.toNat v1_1) (List.getD v1_0 (Int.toNat (v1_1 - 1)) zF)) (Int.toNat (v1_1 - 1)) (List.getD v1_0 (Int.toNat v1_1) zF)) (v1_1 - 1) (Q3s (Q3s ho1_4 (Int.toNat v1_1) (List.getD v1_0 (Int.toNat (v1_1 - 1)) zF)) (Int.toNat (v1_1 - 1)) (List.getD v1_0 (Int.toNat v1_1) zF))
   | false =>
    exact ho1_4
  | false =>
   exact ho1_4
def Q48 (n0 : Nat) (p1 : Int) (p2 : Int) : Nat → Int → (List Fld) → List Fld
 | 0, _v0_0, v0_1 => v0_1
 | k0 + 1, v0_0, v0_1 =>
  bif (decide (v0_0 < p2)) then
   Q48 n0 p1 p2 k0 (v0_0 + 1) (Q2l n0 p1 p2 v0_0 ((Int.toNat v0_0) + 1) v0_1 v0_0)
  else
   v0_1
def Qtf (n0 : Nat) (p1 : Int) (p2 : Int) (v0_0 : Int) (_v0_1 : List Fld) : List PV :=
  [.ms 0 6 0 n0, .int .i64 p1, .int .i64 p2, .fn 80 [] [], .un, .un, .un, .un, .int .i64 v0_0] ++ nuns 44
def Qko (_n0 : Nat) (_p1 : Int) (_p2 : Int) (_v0_0 : Int) (v0_1 : List Fld) : List Ob :=
  [⟨6, 0, false, (Fld.rows v0_1).flatten⟩]
def Qka (n0 : Nat) (p1 : Int) (p2 : Int) (v0_0 : Int) (v0_1 : List Fld) : En := .loop 1 Ir.Qgx Ir.Q18p (Qtf n0 p1 p2 v0_0 v0_1) (Qko n0 p1 p2 v0_0 v0_1)
def Qot (_n0 : Nat) (_p1 : Int) (_p2 : Int) (q0 : List Fld) (z : Nat → PV) (_zo : Nat → List PV) : St :=
  ⟨zr z 0 53, [(0, ⟨6, 0, false, (Fld.rows q0).flatten⟩)], 193⟩
theorem Qze (n0 : Nat) (p1 : Int) (p2 : Int) (v0_0 : Int) (v0_1 : List Fld) : VOK (Go.Pv.look (number 0 (Qko n0 p1 p2 v0_0 v0_1))) [(0, Fld.rows v0_1)] := (VOK.cons (show Seen _ _ from Q2f (ob := ⟨6, 0, false, (Fld.rows v0_1).flatten⟩) (Fld.Q7 v0_1 6 rfl)) VOK.nil)
def Qm5 (n0 : Nat) (p1 : Int) (p2 : Int) (e : En) (q : List Fld) : Prop := ∃ z zo, Q6 G e (.st (.exit 0) (Qot n0 p1 p2 q z zo))
theorem Qo8 (n0 : Nat) (p1 : Int) (p2 : Int) {e e' : En} (h : ∀ r, Q6 G e r → Q6 G e' r) : ∀ q, Qm5 n0 p1 p2 e q → Qm5 n0 p1 p2 e' q
  | _, ⟨z, zo, hz⟩ => ⟨z, zo, h _ hz⟩
theorem Q124 (n0 : Nat) (p1 : Int) (p2 : Int) (v0_0 : Int) (v0_1 : List Fld) (ho0_0 : 0 ≤ p1) (ho0_1 : p1 < v0_0) (ho0_2 : p2 ≤ n0) (ho0_3 : (n0 : Int) ≤ 20) (ho0_4 : List.length v0_1 = n0) (h0 : (decide (v0_0 < p2)) = true) (z1 : Nat → PV) (zo1 : Nat → List PV) (hl1 : Q6 G (Q9n n0 p1 p2 v0_0 v0_1 v0_0) (.st (.exit 2) (Q8z n0 p1 p2 v0_0 (Q2l n0 p1 p2 v0_0 ((Int.toNat v0_0) + 1) v0_1 v0_0) z1 zo1))) {r : Rs} (hr : Q6 G (Qka n0 p1 p2 (v0_0 + 1) (Q2l n0 p1 p2 v0_0 ((Int.toNat v0_0) + 1) v0_1 v0_0)) r) : Q6 G (Qka n0 p1 p2 v0_0 v0_1) r := by
 have e0 := of_decide_eq_true h0
 exact Qb (Qze n0 p1 p2 v0_0 v0_1) (y := (Qtf n0 p1 p2 (v0_0 + 1) (Q2l n0 p1 p2 v0_0 ((Int.toNat v0_0) + 1) v0_1 v0_0), Qko n0 p1 p2 (v0_0 + 1) (Q2l n0 p1 p2 v0_0 ((Int.toNat v0_0) + 1) v0_1 v0_0))) [hB 2 h0, hS 0 false (Fld.Q7 (Q2l n0 p1 p2 v0_0 ((Int.toNat v0_0) + 1) v0_1 v0_0) 6 rfl), hP 3 (w_ok (v0_0 + 1) (by have f0 := (Q2q n0 p1 p2 v0_0 ((Int.toNat v0_0) + 1) v0_1 v0_0 ho0_4); omega))] [aV [(0, Fld.rows (Q2l n0 p1 p2 v0_0 ((Int.toNat v0_0) + 1) v0_1 v0_0))] hl1] (by kernel_rfl) hr
def Qpo (n0 : Nat) (p1 : Int) (p2 : Int) (v0_0 : Int) (_v0_1 : List Fld) : List PV :=
  [.ms 0 6 0 n0, .int .i64 p1, .int .i64 p2, .fn 80 [] [], .un, .un, .un, .un, .int .i64 v0_0, .un, .un, .un, .int .i64 v0_0, .int .i64 p2, .bool false]
def Qie (_n0 : Nat) (_p1 : Int) (_p2 : Int) (_v0_0 : Int) (_v0_1 : List Fld) : List (Nat × List PV) :=
  []
theorem Q13u (n0 : Nat) (p1 : Int) (p2 : Int) (v0_0 : Int) (v0_1 : List Fld) (_ho0_0 : 0 ≤ p1) (_ho0_1 : p1 < v0_0) (_ho0_2 : p2 ≤ n0) (_ho0_3 : (n0 : Int) ≤ 20) (_ho0_4 : List.length v0_1 = n0) (h0 : (decide (v0_0 < p2)) = false) : Qm5 n0 p1 p2 (Qka n0 p1 p2 v0_0 v0_1) v0_1 := by
 exact ⟨(envF (Qpo n0 p1 p2 v0_0 v0_1)), (zoF (Qie n0 p1 p2 v0_0 v0_1)), Qh (Qze n0 p1 p2 v0_0 v0_1) (x := ((.exit 0), Qot n0 p1 p2 v0_1 (envF (Qpo n0 p1 p2 v0_0 v0_1)) (zoF (Qie n0 p1 p2 v0_0 v0_1)))) [hB 2 h0] [] (by kernel_rfl)⟩
theorem Qvw (n0 : Nat) (p1 : Int) (p2 : Int) : ∀ (k0 : Nat) (v0_0 : Int) (v0_1 : List Fld), 0 ≤ p1 → p1 < v0_0 → p2 ≤ n0 → (n0 : Int) ≤ 20 → List.length v0_1 = n0 → Int.toNat (p2 - v0_0) < k0 → Qm5 n0 p1 p2 (Qka n0 p1 p2 v0_0 v0_1) (Q48 n0 p1 p2 k0 v0_0 v0_1)
 | 0, v0_0, v0_1, _, _, _, _, _, hm => absurd hm (Nat.not_lt_zero _)
 | k0 + 1, v0_0, v0_1, ho0_0, ho0_1, ho0_2, ho0_3, ho0_4, hm => by
  rw [Q48]
  cases h0 : (decide (v0_0 < p2)) with
  | true =>
   have e0 := of_decide_eq_true h0
   have hl1 := Qvx n0 p1 p2 v0_0 ((Int.toNat v0_0) + 1) v0_1 v0_0 (by omega) (by omega) (by omega) (by omega) ho0_4 (by omega)
   obtain ⟨z1, zo1, hl1⟩ := hl1
   exact Qo8 n0 p1 p2 (fun r hr => Q124 n0 p1 p2 v0_0 v0_1 ho0_0 ho0_1 ho0_2 ho0_3 ho0_4 h0 z1 zo1 hl1 hr) _ (Qvw n0 p1 p2 k0 (v0_0 + 1) (Q2l n0 p1 p2 v0_0 ((Int.toNat v0_0) + 1) v0_1 v0_0) (by have f0 := (Q2q n0 p1 p2 v0_0 ((Int.toNat v0_0) + 1) v0_1 v0_0 ho0_4); omega) (by have f0 := (Q2q n0 p1 p2 v0_0 ((Int.toNat v0_0) + 1) v0_1 v0_0 ho0_4); omega) (by have f0 := (Q2q n0 p1 p2 v0_0 ((Int.toNat v0_0) + 1) v0_1 v0_0 ho0_4); omega) (by have f0 := (Q2q n0 p1 p2 v0_0 ((Int.toNat v0_0) + 1) v0_1 v0_0 ho0_4); omega) (Q2q n0 p1 p2 v0_0 ((Int.toNat v0_0) + 1) v0_1 v0_0 ho0_4) (by have f0 := (Q2q n0 p1 p2 v0_0 ((Int.toNat v0_0) + 1) v0_1 v0_0 ho0_4); omega))
  | false =>
   exact Q13u n0 p1 p2 v0_0 v0_1 ho0_0 ho0_1 ho0_2 ho0_3 ho0_4 h0
theorem Qa6 (n0 : Nat) (p1 : Int) (p2 : Int) : ∀ (k0 : Nat) (v0_0 : Int) (v0_1 : List Fld), List.length v0_1 = n0 → List.length (Q48 n0 p1 p2 k0 v0_0 v0_1) = n0
 | 0, v0_0, v0_1, ho0_4 => by rw [Q48]; exact ho0_4
 | k0 + 1, v0_0, v0_1, ho0_4 => by
  rw [Q48]
  cases h0 : (decide (v0_0 < p2)) with
  | true =>
   exact Qa6 n0 p1 p2 k0 (v0_0 + 1) (Q2l n0 p1 p2 v0_0 ((Int.toNat v0_0) + 1) v0_1 v0_0) (Q2q n0 p1 p2 v0_0 ((Int.toNat v0_0) + 1) v0_1 v0_0 ho0_4)
  | false =>
   exact ho0_4
def Q1n (n0 : Nat) (p0 : List Fld) (p1 : Int) (p2 : Int) : List Fld :=
 (Q48 n0 p1 p2 ((Int.toNat (p2 - (p1 + 1))) + 1) (p1 + 1) p0)
def Q14h (n0 : Nat) (p0 : List Fld) (p1 : Int) (p2 : Int) : En := .call 111 [.ms 0 6 0 n0, .int .i64 p1, .int .i64 p2, .fn 80 [] []] [⟨6, 0, false, (Fld.rows p0).flatten⟩]
def Qug (n0 : Nat) (p0 : List Fld) (p1 : Int) (p2 : Int) : Rs := .ret (.tup []) [⟨6, 0, false, (Fld.rows (Q1n n0 p0 p1 p2)).flatten⟩]
theorem Q16 (n0 : Nat) (p0 : List Fld) (p1 : Int) (p2 : Int) (hn : List.length p0 = n0) : List.length (Q1n n0 p0 p1 p2) = n0 := by
 unfold Q1n
 have hz0_0 : List.length (Q48 n0 p1 p2 ((Int.toNat (p2 - (p1 + 1))) + 1) (p1 + 1) p0) = n0 := Qa6 n0 p1 p2 ((Int.toNat (p2 - (p1 + 1))) + 1) (p1 + 1) p0 hn
 obtain ⟨R0, eR0⟩ : ∃ R, (Q48 n0 p1 p2 ((Int.toNat (p2 - (p1 + 1))) + 1) (p1 + 1) p0) = R := ⟨_, rfl⟩
 rw [eR0] at hz0_0 ⊢
 exact hz0_0
theorem Qwk (n0 : Nat) (p0 : List Fld) (p1 : Int) (p2 : Int) (hn : List.length p0 = n0) (hq0 : 0 ≤ p1 ∧ p1 ≤ p2 ∧ p2 ≤ n0 ∧ (n0 : Int) ≤ 20) : Q6 G (Q14h n0 p0 p1 p2) (Qug n0 p0 p1 p2) := by
 unfold Qug Q1n
 have hl0 := Qvw n0 p1 p2 ((Int.toNat (p2 - (p1 + 1))) + 1) (p1 + 1) p0 (by omega) (by omega) (by omega) (by omega) hn (by omega)
 have hz0_0 : List.length (Q48 n0 p1 p2 ((Int.toNat (p2 - (p1 + 1))) + 1) (p1 + 1) p0) = n0 := Qa6 n0 p1 p2 ((Int.toNat (p2 - (p1 + 1))) + 1) (p1 + 1) p0 hn
 obtain ⟨R0, eR0⟩ : ∃ R, (Q48 n0 p1 p2 ((Int.toNat (p2 - (p1 + 1))) + 1) (p1 + 1) p0) = R := ⟨_, rfl⟩
 rw [eR0] at hz0_0 hl0 ⊢
 obtain ⟨z0, zo0, hl0⟩ := hl0
 exact Q8 (fn := Ir.Ky) rfl (vk1 (Fld.Q7 p0 6 rfl)) [hP 1 (w_ok (p1 + 1) (by omega)), hS 0 false (Fld.Q7 R0 6 rfl)] [aV [(0, Fld.rows R0)] hl0] (by kernel_rfl)
def Q2g (n0 : Nat) (p1 : Int) : Nat → (List Fld) → Int → Int → (List Fld) × Int
 | 0, v0_0, v0_1, _v0_2 => (v0_0, v0_1)
 | k0 + 1, v0_0, v0_1, v0_2 =>
  bif (decide (v0_2 ≤ p1)) then
   Q2g n0 p1 k0 (Q1n n0 v0_0 v0_1 v0_2) v0_2 (v0_2 + 20)
  else
   (v0_0, v0_1)
def Qth (n0 : Nat) (p1 : Int) (_v0_0 : List Fld) (v0_1 : Int) (v0_2 : Int) : List PV :=
  [.ms 0 6 0 n0, .int .i64 p1, .fn 80 [] [], .un, .un, .un, .int .i64 20, .int .i64 v0_1, .int .i64 v0_2] ++ nuns 54
def Qkq (_n0 : Nat) (_p1 : Int) (v0_0 : List Fld) (_v0_1 : Int) (_v0_2 : Int) : List Ob :=
  [⟨6, 0, false, (Fld.rows v0_0).flatten⟩]
def Qkb (n0 : Nat) (p1 : Int) (v0_0 : List Fld) (v0_1 : Int) (v0_2 : Int) : En := .loop 1 Ir.Qgz Ir.Q18r (Qth n0 p1 v0_0 v0_1 v0_2) (Qkq n0 p1 v0_0 v0_1 v0_2)
def Qou (n0 : Nat) (p1 : Int) (q0 : List Fld) (q1 : Int) (z : Nat → PV) (_zo : Nat → List PV) : St :=
  ⟨[.ms 0 6 0 n0, .int .i64 p1, .fn 80 [] [], z 3, z 4, z 5, .int .i64 20, .int .i64 q1] ++ zr z 8 55, [(0, ⟨6, 0, false, (Fld.rows q0).flatten⟩)], 193⟩
theorem Qzf (n0 : Nat) (p1 : Int) (v0_0 : List Fld) (v0_1 : Int) (v0_2 : Int) : VOK (Go.Pv.look (number 0 (Qkq n0 p1 v0_0 v0_1 v0_2))) [(0, Fld.rows v0_0)] := (VOK.cons (show Seen _ _ from Q2f (ob := ⟨6, 0, false, (Fld.rows v0_0).flatten⟩) (Fld.Q7 v0_0 6 rfl)) VOK.nil)
def Qm6 (n0 : Nat) (p1 : Int) (e : En) (q : (List Fld) × Int) : Prop := ∃ z zo, Q6 G e (.st (.exit 0) (Qou n0 p1 q.1 q.2 z zo))
theorem Qoa (n0 : Nat) (p1 : Int) {e e' : En} (h : ∀ r, Q6 G e r → Q6 G e' r) : ∀ q, Qm6 n0 p1 e q → Qm6 n0 p1 e' q
  | _, ⟨z, zo, hz⟩ => ⟨z, zo, h _ hz⟩
theorem Q126 (n0 : Nat) (p1 : Int) (v0_0 : List Fld) (v0_1 : Int) (v0_2 : Int) (ho0_0 : 0 ≤ v0_1) (_ho0_1 : v0_1 ≤ n0) (ho0_2 : v0_1 + 20 = v0_2) (ho0_3 : p1 = n0) (ho0_4 : (n0 : Int) ≤ 20) (ho0_5 : List.length v0_0 = n0) (h0 : (decide (v0_2 ≤ p1)) = true) {r : Rs} (hr : Q6 G (Qkb n0 p1 (Q1n n0 v0_0 v0_1 v0_2) v0_2 (v0_2 + 20)) r) : Q6 G (Qkb n0 p1 v0_0 v0_1 v0_2) r := by
 have e0 := of_decide_eq_true h0
 exact Qb (Qzf n0 p1 v0_0 v0_1 v0_2) (y := (Qth n0 p1 (Q1n n0 v0_0 v0_1 v0_2) v0_2 (v0_2 + 20), Qkq n0 p1 (Q1n n0 v0_0 v0_1 v0_2) v0_2 (v0_2 + 20))) [hB 2 h0, hQ (Fld.Q7 (Q1n n0 v0_0 v0_1 v0_2) 6 rfl), hP 9 (w_ok (v0_2 + 20) (by have f0 := (Q16 n0 v0_0 v0_1 v0_2 ho0_5); omega))] [aV [(0, Fld.rows (Q1n n0 v0_0 v0_1 v0_2))] (Qwk n0 v0_0 v0_1 v0_2 ho0_5 (by omega))] (by kernel_rfl) hr
def Qpr (_n0 : Nat) (p1 : Int) (_v0_0 : List Fld) (_v0_1 : Int) (v0_2 : Int) : List PV :=
  nuns 8 ++ [.int .i64 v0_2, .un, .un, .int .i64 v0_2, .int .i64 p1, .bool false]
def Qih (_n0 : Nat) (_p1 : Int) (_v0_0 : List Fld) (_v0_1 : Int) (_v0_2 : Int) : List (Nat × List PV) :=
  []
theorem Q13x (n0 : Nat) (p1 : Int) (v0_0 : List Fld) (v0_1 : Int) (v0_2 : Int) (_ho0_0 : 0 ≤ v0_1) (_ho0_1 : v0_1 ≤ n0) (_ho0_2 : v0_1 + 20 = v0_2) (_ho0_3 : p1 = n0) (_ho0_4 : (n0 : Int) ≤ 20) (_ho0_5 : List.length v0_0 = n0) (h0 : (decide (v0_2 ≤ p1)) = false) : Qm6 n0 p1 (Qkb n0 p1 v0_0 v0_1 v0_2) (v0_0, v0_1) := by
 exact ⟨(envF (Qpr n0 p1 v0_0 v0_1 v0_2)), (zoF (Qih n0 p1 v0_0 v0_1 v0_2)), Qh (Qzf n0 p1 v0_0 v0_1 v0_2) (x := ((.exit 0), Qou n0 p1 v0_0 v0_1 (envF (Qpr n0 p1 v0_0 v0_1 v0_2)) (zoF (Qih n0 p1 v0_0 v0_1 v0_2)))) [hB 2 h0] [] (by kernel_rfl)⟩
theorem Qvy (n0 : Nat) (p1 : Int) : ∀ (k0 : Nat) (v0_0 : List Fld) (v0_1 : Int) (v0_2 : Int), 0 ≤ v0_1 → v0_1 ≤ n0 → v0_1 + 20 = v0_2 → p1 = n0 → (n0 : Int) ≤ 20 → List.length v0_0 = n0 → Int.toNat (p1 + 20 - v0_2) < k0 → Qm6 n0 p1 (Qkb n0 p1 v0_0 v0_1 v0_2) (Q2g n0 p1 k0 v0_0 v0_1 v0_2)
 | 0, v0_0, v0_1, v0_2, _, _, _, _, _, _, hm => absurd hm (Nat.not_lt_zero _)
 | k0 + 1, v0_0, v0_1, v0_2, ho0_0, ho0_1, ho0_2, ho0_3, ho0_4, ho0_5, hm => by
  rw [Q2g]
  cases h0 : (decide (v0_2 ≤ p1)) with
  | true =>
   have e0 := of_decide_eq_true h0
   exact Qoa n0 p1 (fun r hr => Q126 n0 p1 v0_0 v0_1 v0_2 ho0_0 ho0_1 ho0_2 ho0_3 ho0_4 ho0_5 h0 hr) _ (Qvy n0 p1 k0 (Q1n n0 v0_0 v0_1 v0_2) v0_2 (v0_2 + 20) (by have f0 := (Q16 n0 v0_0 v0_1 v0_2 ho0_5); omega) (by have f0 := (Q16 n0 v0_0 v0_1 v0_2 ho0_5); omega) (by have f0 := (Q16 n0 v0_0 v0_1 v0_2 ho0_5); omega) (by have f0 := (Q16 n0 v0_0 v0_1 v0_2 ho0_5); omega) (by have f0 := (Q16 n0 v0_0 v0_1 v0_2 ho0_5); omega) (Q16 n0 v0_0 v0_1 v0_2 ho0_5) (by have f0 := (Q16 n0 v0_0 v0_1 v0_2 ho0_5); omega))
  | false =>
   exact Q13x n0 p1 v0_0 v0_1 v0_2 ho0_0 ho0_1 ho0_2 ho0_3 ho0_4 ho0_5 h0
theorem Qa7 (n0 : Nat) (p1 : Int) : ∀ (k0 : Nat) (v0_0 : List Fld) (v0_1 : Int) (v0_2 : Int), List.length v0_0 = n0 → List.length (Q2g n0 p1 k0 v0_0 v0_1 v0_2).1 = n0
 | 0, v0_0, v0_1, v0_2, ho0_5 => by rw [Q2g]; exact ho0_5
 | k0 + 1, v0_0, v0_1, v0_2, ho0_5 => by
  rw [Q2g]
  cases h0 : (decide (v0_2 ≤ p1)) with
  | true =>
   exact Qa7 n0 p1 k0 (Q1n n0 v0_0 v0_1 v0_2) v0_2 (v0_2 + 20) (Q16 n0 v0_0 v0_1 v0_2 ho0_5)
  | false =>
   exact ho0_5
theorem Qw9 (n0 : Nat) (p1 : Int) : ∀ (k0 : Nat) (v0_0 : List Fld) (v0_1 : Int) (v0_2 : Int), 0 ≤ v0_1 → v0_1 ≤ n0 → v0_1 + 20 = v0_2 → p1 = n0 → (n0 : Int) ≤ 20 → List.length v0_0 = n0 → Int.toNat (p1 + 20 - v0_2) < k0 → 0 ≤ (Q2g n0 p1 k0 v0_0 v0_1 v0_2).2 ∧ (Q2g n0 p1 k0 v0_0 v0_1 v0_2).2 ≤ n0
 | 0, v0_0, v0_1, v0_2, _, _, _, _, _, _, hm => absurd hm (Nat.not_lt_zero _)
 | k0 + 1, v0_0, v0_1, v0_2, ho0_0, ho0_1, ho0_2, ho0_3, ho0_4, ho0_5, hm => by
  rw [Q2g]
  cases h0 : (decide (v0_2 ≤ p1)) with
  | true =>
   have e0 := of_decide_eq_true h0
   exact Qw9 n0 p1 k0 (Q1n n0 v0_0 v0_1 v0_2) v0_2 (v0_2 + 20) (by have f0 := (Q16 n0 v0_0 v0_1 v0_2 ho0_5); omega) (by have f0 := (Q16 n0 v0_0 v0_1 v0_2 ho0_5); omega) (by have f0 := (Q16 n0 v0_0 v0_1 v0_2 ho0_5); omega) (by have f0 := (Q16 n0 v0_0 v0_1 v0_2 ho0_5); omega) (by have f0 := (Q16 n0 v0_0 v0_1 v0_2 ho0_5); omega) (Q16 n0 v0_0 v0_1 v0_2 ho0_5) (by have f0 := (Q16 n0 v0_0 v0_1 v0_2 ho0_5); omega)
  | false =>
   have e0 := of_decide_eq_false h0
   exact (show 0 ≤ v0_1 ∧ v0_1 ≤ n0 from ⟨(by omega), (by omega)⟩)
def Q50 (_n0 : Nat) (_p1 : Int) : Nat → (List Fld) → List Fld
 | 0, v1_0 => v1_0
 | _k1 + 1, v1_0 =>
  v1_0
def Q141 (n0 : Nat) (p1 : Int) (_v1_0 : List Fld) : List PV :=
  [.ms 0 6 0 n0, .int .i64 p1, .fn 80 [] [], .un, .un, .un, .int .i64 20] ++ nuns 56
def Qts (_n0 : Nat) (_p1 : Int) (v1_0 : List Fld) : List Ob :=
  [⟨6, 0, false, (Fld.rows v1_0).flatten⟩]
def Qyy (n0 : Nat) (p1 : Int) (v1_0 : List Fld) : En := .loop 1 Ir.Qh0 Ir.Q18s (Q141 n0 p1 v1_0) (Qts n0 p1 v1_0)
def Qov (_n0 : Nat) (_p1 : Int) (q0 : List Fld) (z : Nat → PV) (_zo : Nat → List PV) : St :=
  ⟨zr z 0 63, [(0, ⟨6, 0, false, (Fld.rows q0).flatten⟩)], 193⟩
theorem Q176 (n0 : Nat) (p1 : Int) (v1_0 : List Fld) : VOK (Go.Pv.look (number 0 (Qts n0 p1 v1_0))) [(0, Fld.rows v1_0)] := (VOK.cons (show Seen _ _ from Q2f (ob := ⟨6, 0, false, (Fld.rows v1_0).flatten⟩) (Fld.Q7 v1_0 6 rfl)) VOK.nil)
def Qz1 (n0 : Nat) (p1 : Int) (e : En) (q : List Fld) : Prop := ∃ z zo, Q6 G e (.st (.exit 2) (Qov n0 p1 q z zo))
def Qps (n0 : Nat) (p1 : Int) (_v1_0 : List Fld) : List PV :=
  [.ms 0 6 0 n0, .int .i64 p1, .fn 80 [] [], .un, .un, .un, .int .i64 20] ++ nuns 21 ++ [.int .i64 20, .int .i64 p1, .bool false]
def Qii (_n0 : Nat) (_p1 : Int) (_v1_0 : List Fld) : List (Nat × List PV) :=
  []
theorem Q13y (n0 : Nat) (p1 : Int) (v1_0 : List Fld) (ho1_0 : p1 = n0) (ho1_1 : (n0 : Int) ≤ 20) (ho1_2 : List.length v1_0 = n0) : Qz1 n0 p1 (Qyy n0 p1 v1_0) v1_0 := by
 exact ⟨(envF (Qps n0 p1 v1_0)), (zoF (Qii n0 p1 v1_0)), Qh (Q176 n0 p1 v1_0) (x := ((.exit 2), Qov n0 p1 v1_0 (envF (Qps n0 p1 v1_0)) (zoF (Qii n0 p1 v1_0)))) [hP 2 (dec (decide (20 < p1)) false (decide_eq_false (by omega)))] [] (by kernel_rfl)⟩
theorem Q158 (n0 : Nat) (p1 : Int) : ∀ (k1 : Nat) (v1_0 : List Fld), p1 = n0 → (n0 : Int) ≤ 20 → List.length v1_0 = n0 → 0 < k1 → Qz1 n0 p1 (Qyy n0 p1 v1_0) (Q50 n0 p1 k1 v1_0)
 | 0, v1_0, _, _, _, hm => absurd hm (Nat.not_lt_zero _)
 | k1 + 1, v1_0, ho1_0, ho1_1, ho1_2, hm => by
  rw [Q50]
  exact Q13y n0 p1 v1_0 ho1_0 ho1_1 ho1_2
theorem Qjh (n0 : Nat) (p1 : Int) : ∀ (k1 : Nat) (v1_0 : List Fld), List.length v1_0 = n0 → List.length (Q50 n0 p1 k1 v1_0) = n0
 | 0, v1_0, ho1_2 => by rw [Q50]; exact ho1_2
 | k1 + 1, v1_0, ho1_2 => by
  rw [Q50]
  exact ho1_2
def Q5p (n0 : Nat) (p0 : List Fld) (p1 : Int) : List Fld :=
 (Q50 n0 p1 (0 + 1) (Q1n n0 (Q2g n0 p1 ((Int.toNat (p1 + 20 - 20)) + 1) p0 0 20).1 (Q2g n0 p1 ((Int.toNat (p1 + 20 - 20)) + 1) p0 0 20).2 p1))
def Q14i (n0 : Nat) (p0 : List Fld) (p1 : Int) : En := .call 105 [.ms 0 6 0 n0, .int .i64 p1, .fn 80 [] []] [⟨6, 0, false, (Fld.rows p0).flatten⟩]
def Quh (n0 : Nat) (p0 : List Fld) (p1 : Int) : Rs := .ret (.tup []) [⟨6, 0, false, (Fld.rows (Q5p n0 p0 p1)).flatten⟩]
theorem Qs9 (n0 : Nat) (p0 : List Fld) (p1 : Int) (hn : List.length p0 = n0) : List.length (Q5p n0 p0 p1) = n0 := by
 unfold Q5p
 have hz0_0 : List.length (Q2g n0 p1 ((Int.toNat (p1 + 20 - 20)) + 1) p0 0 20).1 = n0 := Qa7 n0 p1 ((Int.toNat (p1 + 20 - 20)) + 1) p0 0 20 hn
 obtain ⟨R1, eR1⟩ : ∃ R, (Q2g n0 p1 ((Int.toNat (p1 + 20 - 20)) + 1) p0 0 20) = R := ⟨_, rfl⟩
 rw [eR1] at hz0_0 ⊢
 have hz1_0 : List.length (Q50 n0 p1 (0 + 1) (Q1n n0 R1.1 R1.2 p1)) = n0 := Qjh n0 p1 (0 + 1) (Q1n n0 R1.1 R1.2 p1) (Q16 n0 R1.1 R1.2 p1 hz0_0)
 obtain ⟨R2, eR2⟩ : ∃ R, (Q50 n0 p1 (0 + 1) (Q1n n0 R1.1 R1.2 p1)) = R := ⟨_, rfl⟩
 rw [eR2] at hz1_0 ⊢
 exact hz1_0
theorem Q15p (n0 : Nat) (p0 : List Fld) (p1 : Int) (hn : List.length p0 = n0) (hq0 : 0 ≤ p1 ∧ p1 = n0 ∧ (n0 : Int) ≤ 20) : Q6 G (Q14i n0 p0 p1) (Quh n0 p0 p1) := by
 unfold Quh Q5p
 have hl0 := Qvy n0 p1 ((Int.toNat (p1 + 20 - 20)) + 1) p0 0 20 (by omega) (by omega) (by omega) (by omega) (by omega) hn (by omega)
 have hz0_0 : List.length (Q2g n0 p1 ((Int.toNat (p1 + 20 - 20)) + 1) p0 0 20).1 = n0 := Qa7 n0 p1 ((Int.toNat (p1 + 20 - 20)) + 1) p0 0 20 hn
 have hy0 : 0 ≤ (Q2g n0 p1 ((Int.toNat (p1 + 20 - 20)) + 1) p0 0 20).2 ∧ (Q2g n0 p1 ((Int.toNat (p1 + 20 - 20)) + 1) p0 0 20).2 ≤ n0 := Qw9 n0 p1 ((Int.toNat (p1 + 20 - 20)) + 1) p0 0 20 (by omega) (by omega) (by omega) (by omega) (by omega) hn (by omega)
 obtain ⟨R1, eR1⟩ : ∃ R, (Q2g n0 p1 ((Int.toNat (p1 + 20 - 20)) + 1) p0 0 20) = R := ⟨_, rfl⟩
 rw [eR1] at hz0_0 hy0 hl0 ⊢
 obtain ⟨z0, zo0, hl0⟩ := hl0
 have hl1 := Q158 n0 p1 (0 + 1) (Q1n n0 R1.1 R1.2 p1) (by have f0 := (Q16 n0 R1.1 R1.2 p1 hz0_0); have g0 := hy0; omega) (by have f0 := (Q16 n0 R1.1 R1.2 p1 hz0_0); have g0 := hy0; omega) (Q16 n0 R1.1 R1.2 p1 hz0_0) (by omega)
 have hz1_0 : List.length (Q50 n0 p1 (0 + 1) (Q1n n0 R1.1 R1.2 p1)) = n0 := Qjh n0 p1 (0 + 1) (Q1n n0 R1.1 R1.2 p1) (Q16 n0 R1.1 R1.2 p1 hz0_0)
 obtain ⟨R2, eR2⟩ : ∃ R, (Q50 n0 p1 (0 + 1) (Q1n n0 R1.1 R1.2 p1)) = R := ⟨_, rfl⟩
 rw [eR2] at hz1_0 hl1 ⊢
 obtain ⟨z1, zo1, hl1⟩ := hl1
 exact Q8 (fn := Ir.Kz) rfl (vk1 (Fld.Q7 p0 6 rfl)) [hS 0 false (Fld.Q7 R1.1 6 rfl), hQ (Fld.Q7 (Q1n n0 R1.1 R1.2 p1) 6 rfl), hS 0 false (Fld.Q7 R2 6 rfl)] [aV [(0, Fld.rows R1.1)] hl0, aV [(0, Fld.rows (Q1n n0 R1.1 R1.2 p1))] (Qwk n0 R1.1 R1.2 p1 hz0_0 (by have g0 := hy0; omega)), aV [(0, Fld.rows R2)] hl1] (by kernel_rfl)
def Qr (n0 : Nat) (p0 : List Fld) : List Fld :=
 (Q5p n0 p0 (n0 : Int))
def Q14g (n0 : Nat) (p0 : List Fld) : En := .call 79 [.ms 0 6 0 n0, .fn 80 [] []] [⟨6, 0, false, (Fld.rows p0).flatten⟩]
def Quf (n0 : Nat) (p0 : List Fld) : Rs := .ret (.tup []) [⟨6, 0, false, (Fld.rows (Qr n0 p0)).flatten⟩]
theorem Q1o (n0 : Nat) (p0 : List Fld) (hn : List.length p0 = n0) : List.length (Qr n0 p0) = n0 := by
 unfold Qr
 exact (Qs9 n0 p0 (n0 : Int) hn)
theorem Q15o (n0 : Nat) (p0 : List Fld) (hn : List.length p0 = n0) (hq0 : (n0 : Int) ≤ 20) : Q6 G (Q14g n0 p0) (Quf n0 p0) := by
 unfold Quf Qr
 exact Q8 (fn := Ir.Kx) rfl (vk1 (Fld.Q7 p0 6 rfl)) [hQ (Fld.Q7 (Q5p n0 p0 (n0 : Int)) 6 rfl)] [aV [(0, Fld.rows (Q5p n0 p0 (n0 : Int)))] (Q15p n0 p0 (n0 : Int) hn (by omega))] (by kernel_rfl)
def Q1z (p0 : List Fld) : List Fld → Nat → (List Fld) → List Fld
 | [], _i0, v0_1 =>
  v0_1
 | x0 :: r0, i0, v0_1 =>
  bif (((i0 + 1 : Nat) : Int) == ((List.length p0) : Int)) then
   Q1z p0 r0 (i0 + 1) (v0_1 ++ [x0])
  else
   bif (sEq (List.getD (Qr (List.length p0) p0) (Int.toNat ((i0 + 1 : Nat) : Int)) zF).name x0.name) then
    Q1z p0 r0 (i0 + 1) v0_1
   else
    Q1z p0 r0 (i0 + 1) (v0_1 ++ [x0])
def Q8n (p0 : List Fld) (i0 : Nat) (_v0_1 : List Fld) : List PV :=
  [.un, .un, .bx 0 0, .ms 1 6 0 (List.length p0), .bx 2 0] ++ nuns 7 ++ [.ms 1 6 0 (List.length p0), .int .i64 ((List.length p0) : Int), .int .i64 (i0 : Int)] ++ nuns 29
def Q6z (p0 : List Fld) (_i0 : Nat) (v0_1 : List Fld) : List Ob :=
  [⟨5, 0, true, [.int .i64 0, .int .i64 0, .str eB, .ms 3 5 0 0, .ms 4 6 0 0]⟩, ⟨6, 0, false, (Fld.rows (Qr (List.length p0) p0)).flatten⟩, ⟨5, 0, true, [.int .i64 5, .int .i64 0, .str eB, .ms 5 5 0 0, .ms 6 6 0 (List.length v0_1)]⟩, ⟨5, 0, true, []⟩, ⟨6, 0, true, []⟩, ⟨5, 0, true, []⟩, ⟨6, 0, true, (Fld.rows v0_1).flatten⟩]
def Q5g (p0 : List Fld) (i0 : Nat) (v0_1 : List Fld) : En := .loop 0 Ir.Qdd Ir.Q15t (Q8n p0 i0 v0_1) (Q6z p0 i0 v0_1)
def Qh4 (p0 : List Fld) (q0 : List Fld) (z : Nat → PV) (_zo : Nat → List PV) : St :=
  ⟨[z 0, z 1, .bx 0 0, z 3, .bx 2 0] ++ zr z 5 39, [(0, ⟨5, 0, true, [.int .i64 0, .int .i64 0, .str eB, .ms 3 5 0 0, .ms 4 6 0 0]⟩), (1, ⟨6, 0, false, (Fld.rows (Qr (List.length p0) p0)).flatten⟩), (2, ⟨5, 0, true, [.int .i64 5, .int .i64 0, .str eB, .ms 5 5 0 0, .ms 6 6 0 (List.length q0)]⟩), (3, ⟨5, 0, true, []⟩), (4, ⟨6, 0, true, []⟩), (5, ⟨5, 0, true, []⟩), (6, ⟨6, 0, true, (Fld.rows q0).flatten⟩)], 71⟩
theorem Qc9 (p0 : List Fld) (i0 : Nat) (v0_1 : List Fld) : VOK (Go.Pv.look (number 0 (Q6z p0 i0 v0_1))) [(1, Fld.rows (Qr (List.length p0) p0)), (6, Fld.rows v0_1)] := (VOK.cons (show Seen _ _ from Q2f (ob := ⟨6, 0, false, (Fld.rows (Qr (List.length p0) p0)).flatten⟩) (Fld.Q7 (Qr (List.length p0) p0) 6 rfl)) (VOK.cons (show Seen _ _ from Q2f (ob := ⟨6, 0, true, (Fld.rows v0_1).flatten⟩) (Fld.Q7 v0_1 6 rfl)) VOK.nil))
def Qbu (p0 : List Fld) (e : En) (q : List Fld) : Prop := ∃ z zo, Q6 G e (.st (.exit 0) (Qh4 p0 q z zo))
theorem Q6d (p0 : List Fld) {e e' : En} (h : ∀ r, Q6 G e r → Q6 G e' r) : ∀ q, Qbu p0 e q → Qbu p0 e' q
  | _, ⟨z, zo, hz⟩ => ⟨z, zo, h _ hz⟩
def Q7i (p0 : List Fld) : Prop := (List.length (Qr (List.length p0) p0) ≤ 137438953472) ∧ True
def Qil (p0 : List Fld) (i0 : Nat) (_v0_1 : List Fld) : List PV :=
  [.un, .un, .un, .ms 1 6 0 (List.length p0)] ++ nuns 8 ++ [.ms 1 6 0 (List.length p0), .int .i64 ((List.length p0) : Int), .int .i64 (i0 : Int), .bool false]
def Qeb (_p0 : List Fld) (_i0 : Nat) (_v0_1 : List Fld) : List (Nat × List PV) :=
  []
theorem Qyf (p0 : List Fld) (_H : Q7i p0) (i0 : Nat) (v0_1 : List Fld) (_ho0_0 : List.length v0_1 ≤ i0) (hc0 : (decide ((i0 : Int) < ((List.length p0) : Int))) = false) : Qbu p0 (Q5g p0 i0 v0_1) v0_1 := by
 exact ⟨(envF (Qil p0 i0 v0_1)), (zoF (Qeb p0 i0 v0_1)), Qh (Qc9 p0 i0 v0_1) (x := ((.exit 0), Qh4 p0 v0_1 (envF (Qil p0 i0 v0_1)) (zoF (Qeb p0 i0 v0_1)))) [hB 0 hc0] [] (by kernel_rfl)⟩
theorem Qxe (p0 : List Fld) (H : Q7i p0) (x0 : Fld) (i0 : Nat) (v0_1 : List Fld) (hx0 : (Qr (List.length p0) p0)[i0]? = some x0) (hi0 : i0 < List.length (Qr (List.length p0) p0)) (ho0_0 : List.length v0_1 ≤ i0) (hc0 : (decide ((i0 : Int) < ((List.length p0) : Int))) = true) (h0 : (((i0 + 1 : Nat) : Int) == ((List.length p0) : Int)) = true) {r : Rs} (hr : Q6 G (Q5g p0 (i0 + 1) (v0_1 ++ [x0])) r) : Q6 G (Q5g p0 i0 v0_1) r := by
 have hB0 := H.1; have e0 := eq_of_beq h0
 exact Qb (Qc9 p0 i0 v0_1) (y := (Q8n p0 (i0 + 1) (v0_1 ++ [x0]), Q6z p0 (i0 + 1) (v0_1 ++ [x0]))) [hB 0 hc0, hP 1 (Q2x 1 6 (List.length p0) (i0 : Int) i0 (by omega) (by have f1 := (Q1o (List.length p0) p0 rfl); omega) (by have f1 := (Q1o (List.length p0) p0 rfl); omega)), hP 0 (Q7r 1 6 0 false ((Fld.rows (Qr (List.length p0) p0)).flatten) (Fld.rows (Qr (List.length p0) p0)) 6 true i0 0 (i0 * 6) (Fld.cells x0) (.agg [.str x0.name, .int .i64 x0.v.kind, .int .i64 x0.v.n, .str x0.v.s, .sl (Val.rows x0.v.list), .sl (Fld.rows x0.v.fields)]) rfl rfl (Fld.Q9 hx0) (Fld.Qd (Qr (List.length p0) p0)) (by decide) rfl), hP 4 (Q1b i0 (by omega)), hB 2 h0, hV 15 [(1735, Fld.rows (v0_1 ++ [x0]))] (Q2w 6 1671 1735 6 96 0 0 true (Fld.rows v0_1) (Fld.rows (v0_1 ++ [x0])) (Fld.cells x0) (List.length v0_1) (List.length (v0_1 ++ [x0])) rfl (Fld.Q5 v0_1).symm (Fld.Q5 (v0_1 ++ [x0])).symm (Fld.Qv v0_1 x0) (Fld.Qd v0_1) rfl (by omega)), hS 0 true (Fld.Q7 (v0_1 ++ [x0]) 6 rfl), hP 2 (Q1b i0 (by omega))] [] (by kernel_rfl) hr
theorem Qxf (p0 : List Fld) (H : Q7i p0) (x0 : Fld) (i0 : Nat) (v0_1 : List Fld) (hx0 : (Qr (List.length p0) p0)[i0]? = some x0) (hi0 : i0 < List.length (Qr (List.length p0) p0)) (_ho0_0 : List.length v0_1 ≤ i0) (hc0 : (decide ((i0 : Int) < ((List.length p0) : Int))) = true) (h0 : (((i0 + 1 : Nat) : Int) == ((List.length p0) : Int)) = false) (h1 : (sEq (List.getD (Qr (List.length p0) p0) (Int.toNat ((i0 + 1 : Nat) : Int)) zF).name x0.name) = true) {r : Rs} (hr : Q6 G (Q5g p0 (i0 + 1) v0_1) r) : Q6 G (Q5g p0 i0 v0_1) r := by
 have hB0 := H.1; have e0 := beq_eq_false_iff_ne.1 h0
 exact Qb (Qc9 p0 i0 v0_1) (y := (Q8n p0 (i0 + 1) v0_1, Q6z p0 (i0 + 1) v0_1)) [hB 0 hc0, hP 1 (Q2x 1 6 (List.length p0) (i0 : Int) i0 (by omega) (by have f1 := (Q1o (List.length p0) p0 rfl); omega) (by have f1 := (Q1o (List.length p0) p0 rfl); omega)), hP 0 (Q7r 1 6 0 false ((Fld.rows (Qr (List.length p0) p0)).flatten) (Fld.rows (Qr (List.length p0) p0)) 6 true i0 0 (i0 * 6) (Fld.cells x0) (.agg [.str x0.name, .int .i64 x0.v.kind, .int .i64 x0.v.n, .str x0.v.s, .sl (Val.rows x0.v.list), .sl (Fld.rows x0.v.fields)]) rfl rfl (Fld.Q9 hx0) (Fld.Qd (Qr (List.length p0) p0)) (by decide) rfl), hP 4 (Q1b i0 (by omega)), hB 2 h0, hP 3 (Q1b i0 (by omega)), hP 0 (Q2x 1 6 (List.length p0) ((i0 + 1 : Nat) : Int) (Int.toNat ((i0 + 1 : Nat) : Int)) rfl (by have f1 := (Q1o (List.length p0) p0 rfl); omega) (by have f1 := (Q1o (List.length p0) p0 rfl); omega)), hP 1 (Q7r 1 6 0 false ((Fld.rows (Qr (List.length p0) p0)).flatten) (Fld.rows (Qr (List.length p0) p0)) 1 false (Int.toNat ((i0 + 1 : Nat) : Int)) 0 ((Int.toNat ((i0 + 1 : Nat) : Int)) * 6) (Fld.cells (List.getD (Qr (List.length p0) p0) (Int.toNat ((i0 + 1 : Nat) : Int)) zF)) (.str (List.getD (Qr (List.length p0) p0) (Int.toNat ((i0 + 1 : Nat) : Int)) zF).name) rfl rfl (Fld.Q9 (Q39 (Qr (List.length p0) p0) (Int.toNat ((i0 + 1 : Nat) : Int)) zF (by have f1 := (Q1o (List.length p0) p0 rfl); omega))) (Fld.Qd (Qr (List.length p0) p0)) (by decide) rfl), hP 2 (dec (!(sEq (List.getD (Qr (List.length p0) p0) (Int.toNat ((i0 + 1 : Nat) : Int)) zF).name x0.name)) false (by rw [h1]; rfl)), hP 1 (Q1b i0 (by omega))] [] (by kernel_rfl) hr
theorem Qxg (p0 : List Fld) (H : Q7i p0) (x0 : Fld) (i0 : Nat) (v0_1 : List Fld) (hx0 : (Qr (List.length p0) p0)[i0]? = some x0) (hi0 : i0 < List.length (Qr (List.length p0) p0)) (ho0_0 : List.length v0_1 ≤ i0) (hc0 : (decide ((i0 : Int) < ((List.length p0) : Int))) = true) (h0 : (((i0 + 1 : Nat) : Int) == ((List.length p0) : Int)) = false) (h1 : (sEq (List.getD (Qr (List.length p0) p0) (Int.toNat ((i0 + 1 : Nat) : Int)) zF).name x0.name) = false) {r : Rs} (hr : Q6 G (Q5g p0 (i0 + 1) (v0_1 ++ [x0])) r) : Q6 G (Q5g p0 i0 v0_1) r := by
 have hB0 := H.1; have e0 := beq_eq_false_iff_ne.1 h0
 exact Qb (Qc9 p0 i0 v0_1) (y := (Q8n p0 (i0 + 1) (v0_1 ++ [x0]), Q6z p0 (i0 + 1) (v0_1 ++ [x0]))) [hB 0 hc0, hP 1 (Q2x 1 6 (List.length p0) (i0 : Int) i0 (by omega) (by have f1 := (Q1o (List.length p0) p0 rfl); omega) (by have f1 := (Q1o (List.length p0) p0 rfl); omega)), hP 0 (Q7r 1 6 0 false ((Fld.rows (Qr (List.length p0) p0)).flatten) (Fld.rows (Qr (List.length p0) p0)) 6 true i0 0 (i0 * 6) (Fld.cells x0) (.agg [.str x0.name, .int .i64 x0.v.kind, .int .i64 x0.v.n, .str x0.v.s, .sl (Val.rows x0.v.list), .sl (Fld.rows x0.v.fields)]) rfl rfl (Fld.Q9 hx0) (Fld.Qd (Qr (List.length p0) p0)) (by decide) rfl), hP 4 (Q1b i0 (by omega)), hB 2 h0, hP 3 (Q1b i0 (by omega)), hP 0 (Q2x 1 6 (List.length p0) ((i0 + 1 : Nat) : Int) (Int.toNat ((i0 + 1 : Nat) : Int)) rfl (by have f1 := (Q1o (List.length p0) p0 rfl); omega) (by have f1 := (Q1o (List.length p0) p0 rfl); omega)), hP 1 (Q7r 1 6 0 false ((Fld.rows (Qr (List.length p0) p0)).flatten) (Fld.rows (Qr (List.length p0) p0)) 1 false (Int.toNat ((i0 + 1 : Nat) : Int)) 0 ((Int.toNat ((i0 + 1 : Nat) : Int)) * 6) (Fld.cells (List.getD (Qr (List.length p0) p0) (Int.toNat ((i0 + 1 : Nat) : Int)) zF)) (.str (List.getD (Qr (List.length p0) p0) (Int.toNat ((i0 + 1 : Nat) : Int)) zF).name) rfl rfl (Fld.Q9 (Q39 (Qr (List.length p0) p0) (Int.toNat ((i0 + 1 : Nat) : Int)) zF (by have f1 := (Q1o (List.length p0) p0 rfl); omega))) (Fld.Qd (Qr (List.length p0) p0)) (by decide) rfl), hP 2 (dec (!(sEq (List.getD (Qr (List.length p0) p0) (Int.toNat ((i0 + 1 : Nat) : Int)) zF).name x0.name)) true (by rw [h1]; rfl)), hV 5 [(1735, Fld.rows (v0_1 ++ [x0]))] (Q2w 6 1671 1735 6 96 0 0 true (Fld.rows v0_1) (Fld.rows (v0_1 ++ [x0])) (Fld.cells x0) (List.length v0_1) (List.length (v0_1 ++ [x0])) rfl (Fld.Q5 v0_1).symm (Fld.Q5 (v0_1 ++ [x0])).symm (Fld.Qv v0_1 x0) (Fld.Qd v0_1) rfl (by omega)), hS 0 true (Fld.Q7 (v0_1 ++ [x0]) 6 rfl), hP 2 (Q1b i0 (by omega))] [] (by kernel_rfl) hr
theorem Q9d (p0 : List Fld) (H : Q7i p0) : ∀ (r0 : List Fld) (i0 : Nat) (v0_1 : List Fld), List.drop i0 (Qr (List.length p0) p0) = r0 → List.length v0_1 ≤ i0 → Qbu p0 (Q5g p0 i0 v0_1) (Q1z p0 r0 i0 v0_1)
 | [], i0, v0_1, hd, ho0_0 => by
  have hc0 : (decide ((i0 : Int) < ((List.length p0) : Int))) = false := by have hL := (Q1o (List.length p0) p0 rfl); have := Q10 hd; simp; omega
  rw [Q1z]
  exact Qyf p0 H i0 v0_1 ho0_0 hc0
 | x0 :: r0, i0, v0_1, hd, ho0_0 => by
  obtain ⟨hx0, hi0, hd'⟩ := Qz hd
  have hc0 : (decide ((i0 : Int) < ((List.length p0) : Int))) = true := by have hL := (Q1o (List.length p0) p0 rfl); simp; omega
  rw [Q1z]
  cases h0 : (((i0 + 1 : Nat) : Int) == ((List.length p0) : Int)) with
  | true =>
   have e0 := eq_of_beq h0
   exact Q6d p0 (fun r hr => Qxe p0 H x0 i0 v0_1 hx0 hi0 ho0_0 hc0 h0 hr) _ (Q9d p0 H r0 (i0 + 1) (v0_1 ++ [x0]) hd' (by first | omega | (simp; omega)))
  | false =>
   have e0 := beq_eq_false_iff_ne.1 h0
   cases h1 : (sEq (List.getD (Qr (List.length p0) p0) (Int.toNat ((i0 + 1 : Nat) : Int)) zF).name x0.name) with
   | true =>
    exact Q6d p0 (fun r hr => Qxf p0 H x0 i0 v0_1 hx0 hi0 ho0_0 hc0 h0 h1 hr) _ (Q9d p0 H r0 (i0 + 1) v0_1 hd' (by first | omega | (simp; omega)))
   | false =>
    exact Q6d p0 (fun r hr => Qxg p0 H x0 i0 v0_1 hx0 hi0 ho0_0 hc0 h0 h1 hr) _ (Q9d p0 H r0 (i0 + 1) (v0_1 ++ [x0]) hd' (by first | omega | (simp; omega)))
def Q3h (p0 : List Fld) : Val :=
 (Val.mk 5 0 eB [] (Q1z p0 (Qr (List.length p0) p0) 0 []))
def Qg5 (p0 : List Fld) : En := .call 29 [.sl (Fld.rows p0)] []
def Q191 (p0 : List Fld) : Rs := .ret (.agg (Val.cells (Q3h p0))) []
def Q9p (p0 : List Fld) : Prop := (List.length p0 * 96 ≤ 140737488355328) ∧ (((List.length p0) : Int) ≤ 20) ∧ (Q7i p0) ∧ (Qkr (Val.mk 5 0 eB [] (Q1z p0 (Qr (List.length p0) p0) 0 []))) ∧ True
theorem Qfw (p0 : List Fld) (H : Q9p p0) : Q6 G (Qg5 p0) (Q191 p0) := by
 unfold Q191 Q3h
 have hl0 := Q9d p0 (H.2.2.1) (Qr (List.length p0) p0) 0 [] (by simp) (by simp)
 obtain ⟨z0, zo0, hl0⟩ := hl0
 exact Q8 (fn := Ir.K14) rfl VOK.nil [hQ (Fld.Q7 p0 6 rfl), hQ (Fld.Q7 (Qr (List.length p0) p0) 6 rfl), hS 0 false (Fld.Q7 (Qr (List.length p0) p0) 6 rfl), hS 0 true (Fld.Q7 (Q1z p0 (Qr (List.length p0) p0) 0 []) 6 rfl), hQ (Fld.Q5 (Q1z p0 (Qr (List.length p0) p0) 0 [])).symm] [aV [(0, Fld.rows p0)] (Q6o (G := G) (f := 78) (sz := 6) (bytes := 96) rfl (Fld.Q5 p0) (Fld.Q7 p0 6 rfl) H.1), aV [(0, Fld.rows (Qr (List.length p0) p0))] (Q15o (List.length p0) p0 rfl (H.2.1)), aV [(1, Fld.rows (Qr (List.length p0) p0)), (6, Fld.rows (Q1z p0 (Qr (List.length p0) p0) 0 []))] hl0, aN (Q1ba (Val.mk 5 0 eB [] (Q1z p0 (Qr (List.length p0) p0) 0 [])) H.2.2.2.1)] (by kernel_rfl)
end Go.Proofs.YtbagpdebihicnaaGreat
end

section
/- Maps of at most 20 fields, fields of a name and equality in plain words. -/
namespace Go.Proofs.YtbagpdebihicnaaGreat
open Go.Pv Go.Pv.Srt
theorem vind {P : Val → Prop} (h : ∀ v : Val, (∀ x ∈ v.list, P x) → (∀ f ∈ v.fields, P f.v) → P v) : ∀ v, P v := by
  have key : ∀ (k : Nat) (v : Val), SizeOf.sizeOf v < k → P v := by
    intro k
    induction k with
    | zero => intro v hv; exact absurd hv (Nat.not_lt_zero _)
    | succ k ih => intro v hv; exact h v (fun x hx => ih x (by have := szM hx; omega)) (fun f hf => ih f.v (by have := szN hf; omega))
  exact fun v => key _ v (Nat.lt_succ_self _)
theorem vprt (v : Val) (n : BA) : (Qy1 v n).1 = prt v n := by
  unfold Qy1 prt
  cases v.kind == 5 with
  | false => rfl
  | true =>
    simp only [cond_true]
    have : ∀ (l : List Fld) (i : Nat), (match Q5k v n l i with | .k0 => (Val.mk 0 0 ⟨#[]⟩ [] [], false) | .k1 y => (y, true)).1 = Qxc n l := by
      intro l
      induction l with
      | nil => intro i; rfl
      | cons x l ih =>
        intro i
        rw [Q5k, Qxc]
        cases sEq x.name n with
        | true => rfl
        | false => exact ih (i + 1)
    exact this _ _
abbrev Qjt : Fld := zF
theorem Q16i (n0 : Nat) (a b i : Int) : ∀ (k : Nat) (v : List Fld) (j : Int), Q2l n0 a b i k v j = ins1 Qjt cNm a k v j
  | 0, _, _ => rfl
  | k + 1, v, j => by
    rw [Q2l, ins1, Q16i n0 a b i k]
    rfl
theorem Q16h (n0 : Nat) (a b : Int) : ∀ (k : Nat) (i : Int) (v : List Fld), Q48 n0 a b k i v = ins0 Qjt cNm a b k i v
  | 0, _, _ => rfl
  | k + 1, i, v => by
    rw [Q48, ins0, Q16h n0 a b k, Q16i]
theorem Q1b0 (n0 : Nat) (d : List Fld) (a b : Int) : Q1n n0 d a b = ins Qjt cNm d a b := Q16h n0 a b _ _ _
theorem Qmy {l : List Fld} (h : l.length ≤ 20) : Qr l.length l = Qa4 cNm l := by
  unfold Qr Q5p
  have i1 : ∀ v, Q50 l.length (l.length : Int) (0 + 1) v = v := fun v => rfl
  rw [i1, Q1b0, Q2g]
  by_cases c : (20 : Int) ≤ (l.length : Int)
  · rw [show decide ((20 : Int) ≤ (l.length : Int)) = true by simpa using c, cond_true, Q1b0, show Int.toNat ((l.length : Int) + 20 - 20) = 19 + 1 by omega, Q2g, show decide ((20 : Int) + 20 ≤ (l.length : Int)) = false by simp; omega, cond_false]
    have e1 := Qmm (z := Qjt) (c := cNm) (d := l) (A := []) (M := l) (C := []) (a := 0) (b := 20) (by simp) rfl (by omega)
    rw [List.nil_append, List.append_nil] at e1
    rw [e1, Qmm (z := Qjt) (c := cNm) (d := Qa4 cNm l) (A := Qa4 cNm l) (M := []) (C := []) (by simp) (by rw [Qf8 _ (Q9k Fld.name)]; omega) (by simp; omega)]
    simp [Qa4]
  · rw [show decide ((20 : Int) ≤ (l.length : Int)) = false by simpa using c, cond_false]
    have e1 := Qmm (z := Qjt) (c := cNm) (d := l) (A := []) (M := l) (C := []) (a := 0) (b := (l.length : Int)) (by simp) rfl (by omega)
    rw [List.nil_append, List.append_nil] at e1
    exact e1
theorem Qa5 (p : List Fld) : (Qa4 cNm p).length = p.length := Qf8 _ (Q9k Fld.name) p
theorem Q11b {p : List Fld} (hp : p.length ≤ 20) : ∀ (r : List Fld) (i : Nat) (a : List Fld), (Qa4 cNm p).drop i = r → Q1z p r i a = a ++ lasts r
  | [], i, a, _ => by rw [Q1z, lasts]; simp
  | [x], i, a, hd => by
    have hl := Qa5 p
    have h := congrArg List.length hd
    rw [List.length_drop, List.length_singleton] at h
    rw [Q1z, show (((i + 1 : Nat) : Int) == (List.length p : Int)) = true by simp; omega, cond_true, Q1z]
    rfl
  | x :: y :: r, i, a, hd => by
    have hl := Qa5 p
    have h := congrArg List.length hd
    rw [List.length_drop, List.length_cons, List.length_cons] at h
    obtain ⟨_, _, hd'⟩ := Qz hd
    obtain ⟨hy, _, _⟩ := Qz hd'
    rw [Q1z, show (((i + 1 : Nat) : Int) == (List.length p : Int)) = false by simp; omega, cond_false, Qmy hp, Int.toNat_natCast, List.getD_eq_getElem?_getD, hy, Option.getD_some, lasts]
    cases sEq y.name x.name with
    | true => rw [cond_true, cond_true, Q11b hp (y :: r) (i + 1) a hd']
    | false => rw [cond_false, cond_false, Q11b hp (y :: r) (i + 1) _ hd']; simp
theorem Qg2 {p : List Fld} (hp : p.length ≤ 20) : Q1z p (Qr p.length p) 0 [] = mapOf p := by
  rw [Q11b hp _ 0 [] (by rw [Qmy hp]; rfl), Qmy hp]
  rfl
theorem vmap {p : List Fld} (hp : p.length ≤ 20) : Q3h p = vM (mapOf p) := by
  unfold Q3h
  rw [Qg2 hp]
theorem Q18u {l : List Fld} (hl : l.length ≤ 20) (h : ∀ f ∈ l, Val.Sm sB f.v) : Val.Sm sB (vM (mapOf l)) :=
  .mk _ (Nat.zero_le _) (Nat.le_trans (Q118 l) (by show l.length ≤ 1000000000; omega)) (fun _ g => by cases g) fun f hf => h f (Q11a hf)
theorem Qdb {l : List Fld} (hl : l.length ≤ 20) (h : ∀ f ∈ l, Val.Sm sB f.v) : Q9p l := by
  refine ⟨by omega, by omega, ⟨?_, trivial⟩, ?_, trivial⟩
  · rw [Qmy hl, Qa5]
    omega
  · rw [Qg2 hl]
    exact Q18u hl h
theorem Q1bk {v : Val} (h : Val.Sm sB v) (n : BA) : Q16l v n := ⟨⟨Nat.le_trans h.all.2.1 (Nat.le_of_ble_eq_true rfl), h.all.2.2.2, trivial⟩, trivial⟩
end Go.Proofs.YtbagpdebihicnaaGreat
end

