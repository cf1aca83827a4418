/- Texts of the claim, merged by a program; what the statement does not reach is left out. -/
import Derived.Test.YtedohmdgbilicaaBValueCompares2
import Derived.KernelRfl
import Derived.OpenShut
import Derived.ChangeArms
import Derived.ChangeSlices
import Derived.ChangeOld
import Derived.Carry
import GoSem.ClaimJoined
import Derived.Lib.Strings
import Derived.Lib.Slices
import Derived.Lib.Walk
import Derived.Lib.Bytealg

section
/-
  Runs along a trace, over views: operations, regions, code, calls, loops' rounds.
-/
namespace Go.Pv
def Seen (o : Option Ob) (rows : List (List PV)) : Prop := ∃ ob, o = some ob ∧ ViewOK ob.sz ob.cells rows
theorem seenV {ob : Ob} {rows : List (List PV)} (h : ViewOK ob.sz ob.cells rows) : Seen (some ob) rows := ⟨ob, rfl, h⟩
def putV (vw : Views) (cut : List Nat) (new : Views) : Views := new ++ vw.filter fun x => !(has cut x.1)
theorem look_filter {vw : Views} {cut : List Nat} {id : Nat} {rows : List (List PV)} (h : look (vw.filter fun x => !(has cut x.1)) id = some rows) : look vw id = some rows ∧ has cut id = false := by
  induction vw with
  | nil => cases h
  | cons x r ih =>
    obtain ⟨k, rs⟩ := x
    simp only [List.filter_cons] at h
    cases hc : has cut k with
    | true =>
      rw [hc] at h
      simp only [Bool.not_true, Bool.false_eq_true, if_false] at h
      obtain ⟨h1, h2⟩ := ih h
      refine ⟨?_, h2⟩
      simp only [look]
      cases c : Nat.beq k id with
      | true =>
        have := Nat.eq_of_beq_eq_true c
        subst this
        rw [hc] at h2
        cases h2
      | false => exact h1
    | false =>
      rw [hc] at h
      simp only [Bool.not_false, if_true, look] at h ⊢
      cases c : Nat.beq k id with
      | true =>
        rw [c] at h
        have := Nat.eq_of_beq_eq_true c
        subst this
        exact ⟨h, hc⟩
      | false =>
        rw [c] at h
        exact ih h
theorem has_false {l : List Nat} {id : Nat} (h : has l id = false) : id ∉ l := by
  induction l with
  | nil => exact List.not_mem_nil
  | cons k r ih =>
    simp only [has] at h
    cases c : Nat.beq k id with
    | true => rw [c] at h; cases h
    | false =>
      rw [c] at h
      simp only [cond_false] at h
      intro hm
      rcases List.mem_cons.1 hm with rfl | hm
      · simp at c
      · exact ih h hm
theorem putV_look {vw new : Views} {cut : List Nat} {id : Nat} {rows : List (List PV)} (h : look (putV vw cut new) id = some rows) : look new id = some rows ∨ (look vw id = some rows ∧ id ∉ cut) := by
  unfold putV at h
  rw [look_app] at h
  cases hn : look new id with
  | some r => rw [hn] at h; exact .inl h
  | none =>
    rw [hn] at h
    obtain ⟨h1, h2⟩ := look_filter h
    exact .inr ⟨h1, has_false h2⟩
theorem look_in {α : Type} {l : List (Nat × α)} {id : Nat} {x : α} (h : look l id = some x) : (id, x) ∈ l := by
  induction l with
  | nil => cases h
  | cons y r ih =>
    obtain ⟨k, z⟩ := y
    simp only [look] at h
    cases c : Nat.beq k id with
    | true =>
      rw [c] at h
      have := Nat.eq_of_beq_eq_true c
      subst this
      simp only [cond_true, Option.some.injEq] at h
      subst h
      exact List.mem_cons_self
    | false =>
      rw [c] at h
      exact List.mem_cons_of_mem _ (ih h)
/-- an operation keeps the views: those that end are told, those that begin are seen -/
def Turned (H : Nat → Option Ob) (vw : Views) (e : EV) : Prop := VOK (upH H e.eff.hw) (putV vw e.cut e.new)
theorem upH_once {ws : List (Nat × Option Ob)} {H : Nat → Option Ob} {id : Nat} {o : Option Ob} (hn : (ws.map (·.1)).Nodup) (h : (id, o) ∈ ws) : upH H ws id = o := by
  induction ws generalizing H with
  | nil => cases h
  | cons x r ih =>
    obtain ⟨k, z⟩ := x
    simp only [List.map_cons, List.nodup_cons] at hn
    rw [upH]
    rcases List.mem_cons.1 h with e | h
    · injection e with e1 e2
      subst e1 e2
      rw [upH_not (fun y hy e => hn.1 (by rw [← e]; exact List.mem_map_of_mem hy))]
      simp
    · exact ih hn.2 h
def nodupB : List Nat → Bool
  | [] => true
  | k :: r => !(has r k) && nodupB r
theorem nodupB_ok : ∀ {l : List Nat}, nodupB l = true → l.Nodup
  | [], _ => List.nodup_nil
  | k :: r, h => by
    simp only [nodupB, Bool.and_eq_true, Bool.not_eq_true'] at h
    exact List.nodup_cons.2 ⟨has_false h.1, nodupB_ok h.2⟩
theorem shut_same {H : Nat → Option Ob} : ∀ (l : List Nat) (cl : List (Nat × Option Ob)), shut H l = some cl → ∀ id o, (id, o) ∈ cl → ∃ ob ob', H id = some ob ∧ o = some ob' ∧ ob'.sz = ob.sz ∧ ob'.cells = ob.cells
  | [], cl, h, id, o, hm => by
    simp only [shut, Option.some.injEq] at h
    subst h
    cases hm
  | k :: r, cl, h, id, o, hm => by
    simp only [shut] at h
    obtain ⟨ob, hob, h⟩ := obind_some h
    obtain ⟨m, hm', h⟩ := obind_some h
    simp only [Option.some.injEq] at h
    subst h
    rcases List.mem_cons.1 hm with e | hm
    · injection e with e1 e2
      subst e1 e2
      exact ⟨ob, _, hob, rfl, rfl, rfl⟩
    · exact shut_same r m hm' id o hm
def icallW (H : Nat → Option Ob) (vw : Views) (fr : Nat) (byRef : Bool) (f : Nat) (args : List PV) (az : List Ans) : Option EV :=
  (icallV H vw fr byRef f args az).bind fun e => bif nodupB (e.eff.hw.map (·.1)) then some e else none
theorem icallV_sound {G : Nat → Option Fun} {H : Nat → Option Ob} {vw : Views} (hv : VOK H vw) {fr : Nat} {byRef : Bool} {f : Nat} {args : List PV} {az : List Ans} {e : EV} (h : icallW H vw fr byRef f args az = some e) (hm : Met e.owed) (hq : Told G e.asked) : icall (lim G) H fr byRef f args = some e.eff ∧ Turned H vw e := by
  unfold icallW at h
  obtain ⟨e', h0, h'⟩ := obind_some h
  clear h
  cases hnd : nodupB (e'.eff.hw.map (·.1)) with
  | false => rw [hnd] at h'; cases h'
  | true =>
  rw [hnd] at h'
  simp only [cond_true, Option.some.injEq] at h'
  subst h'
  have hnd := nodupB_ok hnd
  unfold icallV at h0
  unfold icall
  obtain ⟨y, hy, h⟩ := obind_some h0
  clear h0
  obtain ⟨z, hz, h⟩ := obind_some h
  simp only at h
  cases hd : disj (y.1.2.2 ++ z.1.2.2) z.1.2.1 with
  | false => rw [hd] at h; cases h
  | true =>
    rw [hd] at h
    simp only [cond_true] at h
    cases az with
    | nil => cases h
    | cons a az' =>
      obtain ⟨r, avw⟩ := a
      cases r with
      | st _ _ => cases h
      | ret v hh =>
        simp only at h
        cases hb : (Nat.ble z.1.2.1.length hh.length && Nat.ble (hh.length - z.1.2.1.length) 64) with
        | false => rw [hb] at h; cases h
        | true =>
          rw [hb] at h
          simp only [cond_true] at h
          obtain ⟨v', hv', h⟩ := obind_some h
          obtain ⟨ws, hws, h⟩ := obind_some h
          have key : ∀ (hy' : Met y.2) (hz' : Met z.2) (hw' : Met ws.2.1) (ht : Tells G (.call f y.1.1 z.1.1) (.ret v hh)) (E : Eff),
              (bif flat 8 v && hh.all (fun ob => ob.cells.all (flat 8)) then some ⟨v', ws.1, z.1.2.1 ++ (y.1.2.2 ++ z.1.2.2)⟩ else (shut H (y.1.2.2 ++ z.1.2.2)).bind fun cl => some ⟨v', ws.1 ++ cl, z.1.2.1 ++ (y.1.2.2 ++ z.1.2.2)⟩) = some E →
              ((passL (pass H byRef 8) args []).bind fun y => (passObs H false false 16 0 y.2.1).bind fun z =>
                let ids := z.2.1
                let lent := y.2.2 ++ z.2.2
                bif disj lent ids then
                  (lim G (.call f y.1 z.1)).bind fun r =>
                    match r with
                    | .ret v h =>
                      bif Nat.ble ids.length h.length && Nat.ble (h.length - ids.length) 64 then
                        (back (ren ids fr) 8 v).bind fun v' => (backObs (ren ids fr) 0 h).bind fun ws =>
                          bif flat 8 v && h.all (fun ob => ob.cells.all (flat 8)) then some ⟨v', ws, ids ++ lent⟩
                          else (shut H lent).bind fun cl => some ⟨v', ws ++ cl, ids ++ lent⟩
                      else none
                    | _ => none
                else none) = some E := by
            intro hy' hz' hw' ht E hE
            rw [passLV_sound (passV_sound hv 8) _ _ y hy hy', Option.bind_some, passObsV_sound hv 16 _ _ z hz hz', Option.bind_some]
            simp only
            rw [hd]
            simp only [cond_true]
            rw [lim_of ht, Option.bind_some]
            simp only
            rw [hb]
            simp only [cond_true]
            rw [hv', Option.bind_some, backObsV_sound hh 0 ws hws hw', Option.bind_some]
            exact hE
          have turn : ∀ (cl : List (Nat × Option Ob)) (hcl : ∀ id o, (id, o) ∈ cl → ∃ ob ob', H id = some ob ∧ o = some ob' ∧ ob'.sz = ob.sz ∧ ob'.cells = ob.cells) (hn : ((ws.1 ++ cl).map (·.1)).Nodup) (hw' : Met ws.2.1) , VOK (upH H (ws.1 ++ cl)) (putV vw (ws.1.map (·.1)) ws.2.2) := by
            intro cl hcl hn hw' id rows hl
            rcases putV_look hl with hl | ⟨hl, hc⟩
            · obtain ⟨ob, hob, hok⟩ := backObsV_views hh 0 ws hws hw' id rows (look_in hl)
              exact ⟨ob, upH_once hn (List.mem_append_left _ hob), hok⟩
            · obtain ⟨ob, hob, hok⟩ := hv id rows hl
              by_cases hx : ∃ o, (id, o) ∈ cl
              · obtain ⟨o, ho⟩ := hx
                obtain ⟨ob1, ob', h1, rfl, h2, h3⟩ := hcl id o ho
                rw [hob] at h1
                injection h1 with h1
                subst h1
                refine ⟨ob', upH_once hn (List.mem_append_right _ ho), ?_⟩
                rw [h2, h3]
                exact hok
              · refine ⟨ob, ?_, hok⟩
                rw [upH_not (fun y hy e => ?_)]
                · exact hob
                · rcases List.mem_append.1 hy with hy | hy
                  · exact hc (by rw [← e]; exact List.mem_map_of_mem hy)
                  · exact hx ⟨y.2, by rw [← e]; exact hy⟩
          cases hlent : y.1.2.2 ++ z.1.2.2 with
          | nil =>
            rw [hlent] at h
            simp only [Option.some.injEq] at h
            subst h
            simp only at hm hq hnd
            refine ⟨key hm.left hm.right.left hm.right.right (hq _ List.mem_cons_self) _ ?_, ?_⟩
            · rw [hlent]
              cases (flat 8 v && hh.all (fun ob => ob.cells.all (flat 8))) <;> simp [shut]
            · have := turn [] (fun _ _ h => by cases h) (by simpa using hnd) hm.right.right
              rw [List.append_nil] at this
              exact this
          | cons l0 lr =>
            rw [hlent] at h
            simp only at h
            cases hf : (flat 8 v && hh.all (fun ob => ob.cells.all (flat 8))) with
            | true =>
              rw [hf] at h
              simp only [cond_true, Option.some.injEq] at h
              subst h
              simp only at hm hq hnd
              refine ⟨key hm.left hm.right.left hm.right.right (hq _ List.mem_cons_self) _ ?_, ?_⟩
              · rw [hlent, hf]
                rfl
              · have := turn [] (fun _ _ h => by cases h) (by simpa using hnd) hm.right.right
                rw [List.append_nil] at this
                exact this
            | false =>
              rw [hf] at h
              simp only [cond_false] at h
              obtain ⟨cl, hcl, h⟩ := obind_some h
              simp only [Option.some.injEq] at h
              subst h
              simp only at hm hq hnd
              refine ⟨key hm.left hm.right.left hm.right.right (hq _ List.mem_cons_self) _ ?_, ?_⟩
              · rw [hlent, hf]
                simp only [cond_false]
                rw [hcl, Option.bind_some]
              · exact turn cl (shut_same _ _ hcl) hnd hm.right.right
def mute : Orc := fun _ => none
theorem iop_mute {X : Orc} {e : Nat → PV} {H : Nat → Option Ob} {fr : Nat} {o : IOp} {x : Eff} (h : iop mute e H fr o = some x) : iop X e H fr o = some x := by
  cases o with
  | call b f xs =>
    simp only [iop] at h
    obtain ⟨t, _, h⟩ := obind_some h
    unfold icall at h
    obtain ⟨y, _, h⟩ := obind_some h
    obtain ⟨z, _, h⟩ := obind_some h
    simp only at h
    cases hd : disj (y.2.2 ++ z.2.2) z.2.1 with
    | false => rw [hd] at h; cases h
    | true =>
      rw [hd] at h
      simp only [cond_true] at h
      obtain ⟨_, h, _⟩ := obind_some h
      cases h
  | _ => exact h
theorem istep_mute {X : Orc} {e : Nat → PV} {H : Nat → Option Ob} {fr : Nat} {o : IOper} {x : Eff} (h : istep mute e H fr o = some x) : istep X e H fr o = some x := by
  unfold istep at h ⊢
  obtain ⟨w, hw, h⟩ := obind_some h
  rw [hw, Option.bind_some]
  cases w with
  | true => exact iop_mute h
  | false => exact h
def iopV (e : Nat → PV) (H : Nat → Option Ob) (vw : Views) (fr : Nat) (az : List Ans) : IOp → Option EV
  | .call byRef f args => (target (f.ev e) (evs e args)).bind fun t => icallW H vw fr byRef t.1 t.2 az
  | o => (iop mute e H fr o).bind fun x => some ⟨x, x.hw.map (·.1), [], az, [], []⟩
def istepV (e : Nat → PV) (H : Nat → Option Ob) (vw : Views) (fr : Nat) (az : List Ans) (o : IOper) : Option EV :=
  (o.wanted e).bind fun w => bif w then iopV e H vw fr az o.op else some ⟨⟨.tup [], [], []⟩, [], [], az, [], []⟩
theorem turned_plain {H : Nat → Option Ob} {vw : Views} (hv : VOK H vw) {x : Eff} {az : List Ans} : Turned H vw ⟨x, x.hw.map (·.1), [], az, [], []⟩ := by
  intro id rows hl
  rcases putV_look hl with hl | ⟨hl, hc⟩
  · cases hl
  · obtain ⟨ob, hob, hok⟩ := hv id rows hl
    refine ⟨ob, ?_, hok⟩
    rw [upH_not (fun y hy e => hc (by rw [← e]; exact List.mem_map_of_mem hy))]
    exact hob
theorem istepV_sound {G : Nat → Option Fun} {e : Nat → PV} {H : Nat → Option Ob} {vw : Views} (hv : VOK H vw) {fr : Nat} {az : List Ans} {o : IOper} {y : EV} (h : istepV e H vw fr az o = some y) (hm : Met y.owed) (hq : Told G y.asked) : istep (lim G) e H fr o = some y.eff ∧ Turned H vw y := by
  unfold istepV at h
  obtain ⟨w, hw, h⟩ := obind_some h
  unfold istep
  rw [hw, Option.bind_some]
  cases w with
  | false =>
    simp only [cond_false, Option.some.injEq] at h
    subst h
    exact ⟨rfl, turned_plain hv (x := ⟨.tup [], [], []⟩)⟩
  | true =>
    simp only [cond_true] at h ⊢
    have gen : ((iop mute e H fr o.op).bind fun x => some (⟨x, x.hw.map (·.1), [], az, [], []⟩ : EV)) = some y → iop (lim G) e H fr o.op = some y.eff ∧ Turned H vw y := by
      intro h
      obtain ⟨x, hx, h⟩ := obind_some h
      simp only [Option.some.injEq] at h
      subst h
      exact ⟨iop_mute hx, turned_plain hv⟩
    cases ho : o.op with
    | call b f xs =>
      rw [ho] at h
      simp only [iopV] at h
      obtain ⟨t, ht, h⟩ := obind_some h
      simp only [iop]
      rw [ht, Option.bind_some]
      exact icallV_sound hv h hm hq
    | _ =>
      rw [ho] at h gen
      exact gen h
/-- after so many operations that are carried out, one whose effect is handed in, with the views that begin there -/
abbrev HintsV := List (Nat × (Eff × Views))
structure TV where
  env : List PV
  heap : List (Nat × Ob)
  vw : Views
  effs : List Eff
  hs : HintsV
  az : List Ans
  owed : List Prop
  asked : Asked
def nobody : Nat → Option Ob := fun _ => none
def iregV (nx : Nat) : Nat → List IOper → HintsV → List Ans → List PV → List (Nat × Ob) → Views → Option TV
  | _, [], hs, az, env, h, vw => some ⟨env, h, vw, [], hs, az, [], []⟩
  | i, o :: r, hs, az, env, h, vw =>
    match hs with
    | [] => (istepV (envF env) (look h) vw (nx + 64 * i) az o).bind fun x => (iregV nx (i + 1) r [] x.az (put env o.dst x.eff.v) (hput h x.eff.hw) (putV vw x.cut x.new)).bind fun y => some ⟨y.env, y.heap, y.vw, x.eff :: y.effs, y.hs, y.az, x.owed ++ y.owed, x.asked ++ y.asked⟩
    | (k + 1, z) :: hs' => (istepV (envF env) (look h) vw (nx + 64 * i) az o).bind fun x => (iregV nx (i + 1) r ((k, z) :: hs') x.az (put env o.dst x.eff.v) (hput h x.eff.hw) (putV vw x.cut x.new)).bind fun y => some ⟨y.env, y.heap, y.vw, x.eff :: y.effs, y.hs, y.az, x.owed ++ y.owed, x.asked ++ y.asked⟩
    | (0, x) :: hs' => (iregV nx (i + 1) r hs' az (put env o.dst x.1.v) (hput h x.1.hw) (putV vw (x.1.hw.map (·.1)) x.2)).bind fun y => some ⟨y.env, y.heap, y.vw, x.1 :: y.effs, y.hs, y.az, (istep mute (envF env) (look h) (nx + 64 * i) o = some x.1) :: ((x.2.map fun p => Seen (upH nobody x.1.hw p.1) p.2) ++ y.owed), y.asked⟩
theorem VOK.turned {h : List (Nat × Ob)} {vw : Views} {y : EV} (ht : Turned (look h) vw y) : VOK (look (hput h y.eff.hw)) (putV vw y.cut y.new) := by
  rw [look_hput]
  exact ht
theorem upH_nobody {ws : List (Nat × Option Ob)} {H : Nat → Option Ob} {id : Nat} {ob : Ob} (h : upH nobody ws id = some ob) : upH H ws id = some ob := by
  by_cases c : ∃ x ∈ ws, x.1 = id
  · rw [upH_congr (H' := nobody) c]
    exact h
  · rw [upH_not (fun y hy e => c ⟨y, hy, e⟩)] at h
    cases h
theorem iregV_sound {G : Nat → Option Fun} {nx : Nat} : ∀ (ops : List IOper) (i : Nat) (hs : HintsV) (az : List Ans) (env : List PV) (h : List (Nat × Ob)) (vw : Views) (t : TV), iregV nx i ops hs az env h vw = some t → VOK (look h) vw → Met t.owed → Told G t.asked → iregion (lim G) nx i ops env h = some (t.env, t.heap, t.effs) ∧ VOK (look t.heap) t.vw
  | [], i, hs, az, env, h, vw, t, ht, hv, _, _ => by
    simp only [iregV, Option.some.injEq] at ht
    subst ht
    exact ⟨rfl, hv⟩
  | o :: r, i, hs, az, env, h, vw, t, ht, hv, hm, hq => by
    have go : ∀ (x : EV) (hs' : HintsV) (vw' : Views), istep (lim G) (envF env) (look h) (nx + 64 * i) o = some x.eff → VOK (look (hput h x.eff.hw)) vw' → ∀ (y : TV), iregV nx (i + 1) r hs' x.az (put env o.dst x.eff.v) (hput h x.eff.hw) vw' = some y → Met y.owed → Told G y.asked → y.env = t.env → y.heap = t.heap → y.vw = t.vw → x.eff :: y.effs = t.effs → iregion (lim G) nx i (o :: r) env h = some (t.env, t.heap, t.effs) ∧ VOK (look t.heap) t.vw := by
      intro x hs' vw' hx hvx y hy hmy hqy e1 e2 e3 e4
      obtain ⟨r1, r2⟩ := iregV_sound r (i + 1) hs' _ _ _ _ y hy hvx hmy hqy
      simp only [iregion]
      rw [hx, Option.bind_some, r1, Option.bind_some, ← e1, ← e2, ← e3, ← e4]
      exact ⟨rfl, r2⟩
    unfold iregV at ht
    split at ht
    · obtain ⟨x, hx, ht⟩ := obind_some ht
      obtain ⟨y, hy, ht⟩ := obind_some ht
      simp only [Option.some.injEq] at ht
      subst ht
      obtain ⟨s1, s2⟩ := istepV_sound hv hx hm.left hq.left
      exact go x _ _ s1 (VOK.turned s2) y hy hm.right hq.right rfl rfl rfl rfl
    · obtain ⟨x, hx, ht⟩ := obind_some ht
      obtain ⟨y, hy, ht⟩ := obind_some ht
      simp only [Option.some.injEq] at ht
      subst ht
      obtain ⟨s1, s2⟩ := istepV_sound hv hx hm.left hq.left
      exact go x _ _ s1 (VOK.turned s2) y hy hm.right hq.right rfl rfl rfl rfl
    · rename_i x hs'
      obtain ⟨y, hy, ht⟩ := obind_some ht
      simp only [Option.some.injEq] at ht
      subst ht
      have hx : istep (lim G) (envF env) (look h) (nx + 64 * i) o = some x.1 := istep_mute hm.head
      have hseen : Met (x.2.map fun p => Seen (upH nobody x.1.hw p.1) p.2) := hm.tail.left
      have hvx : VOK (look (hput h x.1.hw)) (putV vw (x.1.hw.map (·.1)) x.2) := by
        rw [look_hput]
        intro id rows hl
        rcases putV_look hl with hl | ⟨hl, hc⟩
        · obtain ⟨ob, hob, hok⟩ := hseen _ (List.mem_map_of_mem (f := fun p : Nat × List (List PV) => Seen (upH nobody x.1.hw p.1) p.2) (look_in hl))
          exact ⟨ob, upH_nobody hob, hok⟩
        · obtain ⟨ob, hob, hok⟩ := hv id rows hl
          refine ⟨ob, ?_, hok⟩
          rw [upH_not (fun y hy e => hc (by rw [← e]; exact List.mem_map_of_mem hy))]
          exact hob
      exact go ⟨x.1, x.1.hw.map (·.1), x.2, az, [], []⟩ hs' _ hx hvx y hy hm.tail.right hq rfl rfl rfl rfl
structure CV where
  ex : Ex
  st : St
  vw : Views
  hs : HintsV
  az : List Ans
  owed : List Prop
  asked : Asked
def icodeV (m : Nat) : IR → HintsV → List Ans → Views → St → Option CV
  | .skip, hs, az, vw, s => some ⟨.normal, s, vw, hs, az, [], []⟩
  | .reg ops draw, hs, az, vw, s => (iregV s.nx 0 ops hs az s.env s.heap vw).bind fun y => bif !draw || calm (ops.zip y.effs) 0 (ops.zip y.effs) then some ⟨.normal, ⟨y.env, y.heap, s.nx + 64 * ops.length⟩, y.vw, y.hs, y.az, y.owed, y.asked⟩ else none
  | .seq a b, hs, az, vw, s => (icodeV m a hs az vw s).bind fun x => (match x.ex with | .normal => (icodeV m b x.hs x.az x.vw x.st).bind fun y => some ⟨y.ex, y.st, y.vw, y.hs, y.az, x.owed ++ y.owed, x.asked ++ y.asked⟩ | _ => some x)
  | .cond c a b, hs, az, vw, s => (match c.ev (envF s.env) with | .bool t => (bif t then icodeV m a hs az vw s else icodeV m b hs az vw s) | _ => none)
  | .block id b, hs, az, vw, s => (icodeV m b hs az vw s).bind fun x => (match x.ex with | .exit j => (bif Nat.beq j id then some ⟨.normal, x.st, x.vw, x.hs, x.az, x.owed, x.asked⟩ else some x) | _ => some x)
  | .loop live b, hs, az, vw, s => (gcV vw m live s).bind fun y => (match az with
    | [] => none
    | a :: az' => (match a.r with | .st e s' => some ⟨e, s', a.vw, hs, az', y.2 ++ (a.vw.map fun p => Seen (look s'.heap p.1) p.2), [(.loop m live b y.1.1 y.1.2, a.r)]⟩ | _ => none))
  | .exit id, hs, az, vw, s => some ⟨.exit id, s, vw, hs, az, [], []⟩
  | .ret, hs, az, vw, s => some ⟨.ret, s, vw, hs, az, [], []⟩
theorem icodeV_sound {G : Nat → Option Fun} {m : Nat} : ∀ (c : IR) (hs : HintsV) (az : List Ans) (vw : Views) (s : St) (t : CV), icodeV m c hs az vw s = some t → VOK (look s.heap) vw → Met t.owed → Told G t.asked → icode (lim G) m c s = some (t.ex, t.st) ∧ VOK (look t.st.heap) t.vw
  | .skip, hs, az, vw, s, t, ht, hv, _, _ => by
    simp only [icodeV, Option.some.injEq] at ht
    subst ht
    exact ⟨rfl, hv⟩
  | .reg ops draw, hs, az, vw, s, t, ht, hv, hm, hq => by
    simp only [icodeV] at ht
    obtain ⟨y, hy, ht⟩ := obind_some ht
    cases hc : (!draw || calm (ops.zip y.effs) 0 (ops.zip y.effs)) with
    | false => rw [hc] at ht; cases ht
    | true =>
      rw [hc] at ht
      simp only [cond_true, Option.some.injEq] at ht
      subst ht
      obtain ⟨r1, r2⟩ := iregV_sound ops 0 hs az s.env s.heap vw y hy hv hm hq
      have h1 : ireg (lim G) ops draw s = some ⟨y.env, y.heap, s.nx + 64 * ops.length⟩ := by
        unfold ireg
        rw [r1, Option.bind_some]
        simp only
        rw [hc]
        rfl
      simp only [icode]
      rw [h1]
      exact ⟨rfl, r2⟩
  | .seq a b, hs, az, vw, s, t, ht, hv, hm, hq => by
    simp only [icodeV] at ht
    obtain ⟨x, hx, ht⟩ := obind_some ht
    obtain ⟨ex, st, vw1, hs1, as1, ow1, ak1⟩ := x
    simp only [icode]
    cases ex with
    | normal =>
      simp only at ht
      obtain ⟨y, hy, ht⟩ := obind_some ht
      simp only [Option.some.injEq] at ht
      subst ht
      obtain ⟨r1, r2⟩ := icodeV_sound a hs az vw s _ hx hv hm.left hq.left
      rw [r1, Option.bind_some]
      exact icodeV_sound b _ _ _ _ y hy r2 hm.right hq.right
    | exit j =>
      simp only [Option.some.injEq] at ht
      subst ht
      obtain ⟨r1, r2⟩ := icodeV_sound a hs az vw s _ hx hv hm hq
      rw [r1, Option.bind_some]
      exact ⟨rfl, r2⟩
    | ret =>
      simp only [Option.some.injEq] at ht
      subst ht
      obtain ⟨r1, r2⟩ := icodeV_sound a hs az vw s _ hx hv hm hq
      rw [r1, Option.bind_some]
      exact ⟨rfl, r2⟩
  | .cond c a b, hs, az, vw, s, t, ht, hv, hm, hq => by
    simp only [icodeV] at ht
    simp only [icode]
    split at ht
    · rename_i q hq'
      rw [hq']
      simp only
      cases q with
      | true => exact icodeV_sound a hs az vw s t ht hv hm hq
      | false => exact icodeV_sound b hs az vw s t ht hv hm hq
    · cases ht
  | .block id b, hs, az, vw, s, t, ht, hv, hm, hq => by
    simp only [icodeV] at ht
    obtain ⟨x, hx, ht⟩ := obind_some ht
    obtain ⟨ex, st, vw1, hs1, as1, ow1, ak1⟩ := x
    simp only [icode]
    cases ex with
    | normal =>
      simp only [Option.some.injEq] at ht
      subst ht
      obtain ⟨r1, r2⟩ := icodeV_sound b hs az vw s _ hx hv hm hq
      rw [r1, Option.bind_some]
      exact ⟨rfl, r2⟩
    | ret =>
      simp only [Option.some.injEq] at ht
      subst ht
      obtain ⟨r1, r2⟩ := icodeV_sound b hs az vw s _ hx hv hm hq
      rw [r1, Option.bind_some]
      exact ⟨rfl, r2⟩
    | exit j =>
      simp only at ht
      cases hj : Nat.beq j id with
      | true =>
        rw [hj] at ht
        simp only [cond_true, Option.some.injEq] at ht
        subst ht
        obtain ⟨r1, r2⟩ := icodeV_sound b hs az vw s _ hx hv hm hq
        rw [r1, Option.bind_some]
        simp only
        rw [hj]
        exact ⟨rfl, r2⟩
      | false =>
        rw [hj] at ht
        simp only [cond_false, Option.some.injEq] at ht
        subst ht
        obtain ⟨r1, r2⟩ := icodeV_sound b hs az vw s _ hx hv hm hq
        rw [r1, Option.bind_some]
        simp only
        rw [hj]
        exact ⟨rfl, r2⟩
  | .loop live b, hs, az, vw, s, t, ht, hv, hm, hq => by
    simp only [icodeV] at ht
    obtain ⟨y, hy, ht⟩ := obind_some ht
    simp only [icode]
    cases az with
    | nil => cases ht
    | cons a az' =>
      obtain ⟨r, avw⟩ := a
      cases r with
      | ret _ _ => cases ht
      | st e s' =>
        simp only [Option.some.injEq] at ht
        subst ht
        rw [gcV_sound hv hy hm.left, Option.bind_some, lim_of (hq _ List.mem_cons_self), Option.bind_some]
        refine ⟨rfl, fun id rows hl => ?_⟩
        exact hm.right _ (List.mem_map_of_mem (f := fun p : Nat × List (List PV) => Seen (look s'.heap p.1) p.2) (look_in hl))
  | .exit id, hs, az, vw, s, t, ht, hv, _, _ => by
    simp only [icodeV, Option.some.injEq] at ht
    subst ht
    exact ⟨rfl, hv⟩
  | .ret, hs, az, vw, s, t, ht, hv, _, _ => by
    simp only [icodeV, Option.some.injEq] at ht
    subst ht
    exact ⟨rfl, hv⟩
def finV (fn : IFn) (m : Nat) (vw : Views) (s : St) : Option (Rs × List Prop) :=
  (mapO (rv s) fn.res).bind fun vs =>
    let a := bif fn.keep then virtL s.nx vs else (vs, s.nx, [])
    let H := look (s.heap ++ a.2.2)
    (passLV (passV H vw fn.keep 8) a.1 (upTo m)).bind fun y =>
      (passObsV H vw false true 32 0 y.1.2.1).bind fun z =>
        bif disj (y.1.2.2 ++ z.1.2.2) z.1.2.1 then some (.ret (match y.1.1 with | [v] => v | l => .tup l) (regr m z.1.1), y.2 ++ z.2) else none
theorem finV_sound {fn : IFn} {m : Nat} {vw : Views} {s : St} (hv : VOK (look s.heap) vw) {y : Rs × List Prop} (h : finV fn m vw s = some y) (hm : Met y.2) : fin fn m s = some y.1 := by
  unfold finV at h
  unfold fin
  obtain ⟨vs, hvs, h⟩ := obind_some h
  rw [hvs, Option.bind_some]
  simp only at h ⊢
  have hv' : VOK (look (s.heap ++ (bif fn.keep then virtL s.nx vs else (vs, s.nx, [])).2.2)) vw := by
    intro id rows hl
    obtain ⟨ob, hob, hok⟩ := hv id rows hl
    refine ⟨ob, ?_, hok⟩
    rw [look_app, hob]
  obtain ⟨x, hx, h⟩ := obind_some h
  obtain ⟨z, hz, h⟩ := obind_some h
  cases hd : disj (x.1.2.2 ++ z.1.2.2) z.1.2.1 with
  | false => rw [hd] at h; cases h
  | true =>
    rw [hd] at h
    simp only [cond_true, Option.some.injEq] at h
    subst h
    rw [passLV_sound (passV_sound hv' 8) _ _ x hx hm.left, Option.bind_some, passObsV_sound hv' 32 _ _ z hz hm.right, Option.bind_some, hd]
    rfl
def callV (fn : IFn) (args : List PV) (h : List Ob) (vw : Views) (hs : HintsV) (az : List Ans) : Option (Rs × List Prop × Asked) :=
  bif Nat.beq args.length fn.np then
    (icodeV h.length fn.body hs az vw ⟨args ++ nuns (fn.nt - fn.np), number 0 h, h.length⟩).bind fun x =>
      (match x.ex with
       | .exit _ => none
       | _ => (finV fn h.length x.vw x.st).bind fun r => some (r.1, x.owed ++ r.2, x.asked))
  else none
theorem tells_V {G : Nat → Option Fun} {f : Nat} {fn : IFn} (hG : G f = some (.ir fn)) {args : List PV} {h : List Ob} {vw : Views} (hv : VOK (look (number 0 h)) vw) {hs : HintsV} {az : List Ans} {r : Rs} {ow : List Prop} {ak : Asked} (hp : Met ow) (hq : Told G ak) (ht : callV fn args h vw hs az = some (r, ow, ak)) : Tells G (.call f args h) r := by
  refine tells_phi sure_lim ?_
  unfold callV at ht
  simp only [phi, hG]
  cases hl : Nat.beq args.length fn.np with
  | false => rw [hl] at ht; cases ht
  | true =>
    rw [hl] at ht
    simp only [cond_true] at ht ⊢
    obtain ⟨x, hx, ht⟩ := obind_some ht
    obtain ⟨ex, st, vw1, hs1, as1, ow1, ak1⟩ := x
    cases ex with
    | exit j => cases ht
    | normal =>
      simp only at ht
      obtain ⟨r', hr, ht⟩ := obind_some ht
      simp only [Option.some.injEq, Prod.mk.injEq] at ht
      obtain ⟨rfl, rfl, rfl⟩ := ht
      obtain ⟨r1, r2⟩ := icodeV_sound _ hs az vw _ _ hx hv hp.left hq
      rw [r1, Option.bind_some]
      exact finV_sound r2 hr hp.right
    | ret =>
      simp only at ht
      obtain ⟨r', hr, ht⟩ := obind_some ht
      simp only [Option.some.injEq, Prod.mk.injEq] at ht
      obtain ⟨rfl, rfl, rfl⟩ := ht
      obtain ⟨r1, r2⟩ := icodeV_sound _ hs az vw _ _ hx hv hp.left hq
      rw [r1, Option.bind_some]
      exact finV_sound r2 hr hp.right
theorem VOK.nil {H : Nat → Option Ob} : VOK H [] := fun _ _ h => by cases h
def nextV (m : Nat) (live : List Nat) (b : IR) (env : List PV) (h : List Ob) (vw : Views) (hs : HintsV) (az : List Ans) : Option ((List PV × List Ob) × List Prop × Asked) :=
  (icodeV m b hs az vw ⟨env, number 0 h, h.length⟩).bind fun x => (match x.ex with | .normal => (gcV x.vw m live x.st).bind fun y => some (y.1, x.owed ++ y.2, x.asked) | _ => none)
theorem tells_nextV {G : Nat → Option Fun} {m : Nat} {live : List Nat} {b : IR} {env : List PV} {h : List Ob} {vw : Views} (hv : VOK (look (number 0 h)) vw) {hs : HintsV} {az : List Ans} {y : List PV × List Ob} {ow : List Prop} {ak : Asked} {r : Rs} (hp : Met ow) (hq : Told G ak) (ht : nextV m live b env h vw hs az = some (y, ow, ak)) (hr : Tells G (.loop m live b y.1 y.2) r) : Tells G (.loop m live b env h) r := by
  unfold nextV at ht
  obtain ⟨x, hx, ht⟩ := obind_some ht
  obtain ⟨ex, st, vw1, hs1, as1, ow1, ak1⟩ := x
  cases ex with
  | normal =>
    simp only at ht
    obtain ⟨y', hg, ht⟩ := obind_some ht
    simp only [Option.some.injEq, Prod.mk.injEq] at ht
    obtain ⟨rfl, rfl, rfl⟩ := ht
    obtain ⟨r1, r2⟩ := icodeV_sound _ hs az vw _ _ hx hv hp.left hq
    exact tells_loop sure_lim r1 (gcV_sound r2 hg hp.right) hr
  | exit j => cases ht
  | ret => cases ht
def leaveV (m : Nat) (b : IR) (env : List PV) (h : List Ob) (vw : Views) (hs : HintsV) (az : List Ans) : Option ((Ex × St) × List Prop × Asked) :=
  (icodeV m b hs az vw ⟨env, number 0 h, h.length⟩).bind fun x => (match x.ex with | .normal => none | e => some ((e, x.st), x.owed, x.asked))
theorem tells_outV {G : Nat → Option Fun} {m : Nat} {live : List Nat} {b : IR} {env : List PV} {h : List Ob} {vw : Views} (hv : VOK (look (number 0 h)) vw) {hs : HintsV} {az : List Ans} {x : Ex × St} {ow : List Prop} {ak : Asked} (hp : Met ow) (hq : Told G ak) (ht : leaveV m b env h vw hs az = some (x, ow, ak)) : Tells G (.loop m live b env h) (.st x.1 x.2) := by
  unfold leaveV at ht
  obtain ⟨y, hy, ht⟩ := obind_some ht
  obtain ⟨ex, st, vw1, hs1, as1, ow1, ak1⟩ := y
  cases ex with
  | normal => cases ht
  | exit j =>
    simp only [Option.some.injEq, Prod.mk.injEq] at ht
    obtain ⟨rfl, rfl, rfl⟩ := ht
    exact tells_leave sure_lim (by intro h; cases h) (icodeV_sound _ hs az vw _ _ hy hv hp hq).1
  | ret =>
    simp only [Option.some.injEq, Prod.mk.injEq] at ht
    obtain ⟨rfl, rfl, rfl⟩ := ht
    exact tells_leave sure_lim (by intro h; cases h) (icodeV_sound _ hs az vw _ _ hy hv hp hq).1
end Go.Pv
end

section
/-
  Small words and hints' lemmas for walks that a program prints.
-/
namespace Go.Pv
def bE (b : Bool) : Eff := ⟨.bool b, [], []⟩
def vE (v : PV) : Eff := ⟨v, [], []⟩
def w64 (n : Int) : Int := IntKind.i64.wrap n
def mx (x y : Int) : Int := if y > x then y else x
def sEq (a b : ByteArray) : Bool := a.toList == b.toList
def sLt (a b : ByteArray) : Bool := Op.bytesLess a.toList b.toList
theorem dec (c v : Bool) (h : c = v) : some (bE c) = some (bE v) := by rw [h]
theorem rowsGet {α : Type} {f : α → List PV} {l : List α} {i : Nat} {x : α} (h : l[i]? = some x) : (l.map f)[i]? = some (f x) := by
  rw [List.getElem?_map, h]
  rfl
def ixE (sz : Nat) (l : List (List PV)) (i : Int) : Option Eff := (opP (fun _ => .un) (.iaddr sz (.c (.sl l)) (.c (.int .i64 i)))).bind fun v => some ⟨v, [], []⟩
theorem ix_ok (sz : Nat) (l : List (List PV)) (i : Nat) (r : List PV) (h : l[i]? = some r) (hs : r.length = sz) : ixE sz l (i : Int) = some (vE (.rf r)) := by
  unfold ixE
  simp only [opP, Opd.ev, asNat]
  have h0 : decide (0 ≤ (i : Int)) = true := by simp
  rw [h0]
  simp only [cond_true, Option.bind_some, Int.toNat_natCast]
  rw [h]
  subst hs
  simp [vE]
theorem ixI_ok (sz : Nat) (l : List (List PV)) (i : Int) (r : List PV) (h0 : 0 ≤ i) (h : l[i.toNat]? = some r) (hs : r.length = sz) : ixE sz l i = some (vE (.rf r)) := by
  have := ix_ok sz l i.toNat r h hs
  rw [show ((i.toNat : Nat) : Int) = i by omega] at this
  exact this
def lenE (l : List (List PV)) : Option Eff := some ⟨.int .i64 (l.length : Int), [], []⟩
theorem len_ok (l : List (List PV)) (n : Nat) (h : l.length = n) : lenE l = some (vE (.int .i64 (n : Int))) := by
  unfold lenE
  rw [h]
  rfl
theorem w64_of {n : Int} (h : -9223372036854775808 ≤ n ∧ n ≤ 9223372036854775807) : w64 n = n := by
  unfold w64 IntKind.wrap
  simp [IntKind.signed, IntKind.bits]
  omega
def addE (a b : Int) : Option Eff := some ⟨.int .i64 (IntKind.i64.wrap (a + b)), [], []⟩
theorem inc_ok (i : Nat) (h : i < 9223372036854775807) : addE (i : Int) 1 = some (vE (.int .i64 ((i + 1 : Nat) : Int))) := by
  unfold addE
  have : IntKind.i64.wrap ((i : Int) + 1) = ((i + 1 : Nat) : Int) := by
    have := w64_of (n := (i : Int) + 1) (by omega)
    unfold w64 at this
    rw [this]
    rfl
  rw [this]
  rfl
end Go.Pv
namespace Go.Pv
theorem VOK.cons {H : Nat → Option Ob} {vw : Views} {id : Nat} {rows : List (List PV)} (h : Seen (H id) rows) (hv : VOK H vw) : VOK H ((id, rows) :: vw) := by
  intro k rs hl
  simp only [look] at hl
  cases c : Nat.beq id k with
  | true =>
    have := Nat.eq_of_beq_eq_true c
    subst this
    rw [c] at hl
    simp only [cond_true, Option.some.injEq] at hl
    subst hl
    exact h
  | false =>
    rw [c] at hl
    exact hv k rs hl
theorem drop_get {α : Type} {l : List α} {i : Nat} {x : α} {r : List α} (h : l.drop i = x :: r) : l[i]? = some x ∧ i < l.length ∧ l.drop (i + 1) = r := by
  have h1 : l[i]? = some x := by
    have := congrArg (fun q => q[0]?) h
    simpa [List.getElem?_drop] using this
  have h2 : i < l.length := (List.getElem?_eq_some_iff.1 h1).1
  refine ⟨h1, h2, ?_⟩
  rw [← List.tail_drop, h]
  rfl
theorem drop_end {α : Type} {l : List α} {i : Nat} (h : l.drop i = []) : l.length ≤ i := by
  simpa using h
theorem mem_get {α : Type} {l : List α} {i : Nat} {x : α} (h : l[i]? = some x) : x ∈ l := List.mem_of_getElem? h
def intRows (l : List Int) : List (List PV) := l.map fun n => [.int .i64 n]
theorem intRowsLen (l : List Int) : (intRows l).length = l.length := by simp [intRows]
theorem intRowsGet {l : List Int} {i : Nat} {x : Int} (h : l[i]? = some x) : (intRows l)[i]? = some [.int .i64 x] := rowsGet (f := fun n => [.int .i64 n]) h
end Go.Pv
namespace Go.Pv
def zoF (l : List (Nat × List PV)) (j : Nat) : List PV := (look l j).getD []
end Go.Pv
namespace Go.Pv
end Go.Pv
namespace Go.Pv
end Go.Pv
namespace Go.Pv
theorem getD_ok {α : Type} (l : List α) (k : Nat) (d : α) (h : k < l.length) : l[k]? = some (l.getD k d) := by
  rw [List.getD_eq_getElem?_getD, List.getElem?_eq_getElem h]
  rfl
end Go.Pv
namespace Go.Pv
end Go.Pv
namespace Go.Pv
end Go.Pv
end

section
/- More of single operations: sums that don't run over; shifts of indexes; stores into a slice of one's own that is known by its rows. -/
namespace Go.Pv
def sCmp (a b : ByteArray) : Int := cmpL a.toList b.toList
end Go.Pv
end

section
/- A walk's hints and answers, each with its proof. -/
namespace Go.Pv
structure It where
  hint : Option (Nat × (Eff × Views))
  p : Prop
  pf : p
def hsOf : List It → HintsV
  | [] => []
  | x :: r => (match x.hint with | some h => h :: hsOf r | none => hsOf r)
def owOf : List It → List Prop
  | [] => []
  | x :: r => x.p :: owOf r
theorem metOf : ∀ l : List It, Met (owOf l)
  | [] => Met.nil
  | x :: r => Met.cons x.pf (metOf r)
structure An (G : Nat → Option Fun) where
  e : En
  r : Rs
  vw : Views
  pf : Tells G e r
def asOf {G : Nat → Option Fun} : List (An G) → List Ans
  | [] => []
  | x :: r => ⟨x.r, x.vw⟩ :: asOf r
def akOf {G : Nat → Option Fun} : List (An G) → Asked
  | [] => []
  | x :: r => (x.e, x.r) :: akOf r
theorem toldAn {G : Nat → Option Fun} : ∀ l : List (An G), Told G (akOf l)
  | [] => Told.nil
  | x :: r => Told.cons x.pf (toldAn r)
/-- a branch's bool -/
def hB {c v : Bool} (n : Nat) (h : c = v) : It := ⟨some (n, (bE v, [])), some (bE c) = some (bE v), dec c v h⟩
def hP {x : Option Eff} {y : Eff} (n : Nat) (h : x = some y) : It := ⟨some (n, (y, [])), x = some y, h⟩
def hV {x : Option Eff} {y : Eff} (n : Nat) (vw : Views) (h : x = some y) : It := ⟨some (n, (y, vw)), x = some y, h⟩
def hQ {p : Prop} (h : p) : It := ⟨none, p, h⟩
def aN {G : Nat → Option Fun} {e : En} {r : Rs} (h : Tells G e r) : An G := ⟨e, r, [], h⟩
def aB {G : Nat → Option Fun} {e : En} {c v : Bool} (h : Tells G e (.ret (.bool c) [])) (hc : c = v) : An G := ⟨e, .ret (.bool v) [], [], hc ▸ h⟩
theorem tells_VI {G : Nat → Option Fun} {f : Nat} {fn : IFn} (hG : G f = some (.ir fn)) {args : List PV} {h : List Ob} {vw : Views} (hv : VOK (look (number 0 h)) vw) {r : Rs} (l : List It) (q : List (An G)) (ht : callV fn args h vw (hsOf l) (asOf q) = some (r, owOf l, akOf q)) : Tells G (.call f args h) r := tells_V hG hv (metOf l) (toldAn q) ht
theorem tells_nextVI {G : Nat → Option Fun} {m : Nat} {live : List Nat} {b : IR} {env : List PV} {h : List Ob} {vw : Views} (hv : VOK (look (number 0 h)) vw) {y : List PV × List Ob} {r : Rs} (l : List It) (q : List (An G)) (ht : nextV m live b env h vw (hsOf l) (asOf q) = some (y, owOf l, akOf q)) (hr : Tells G (.loop m live b y.1 y.2) r) : Tells G (.loop m live b env h) r := tells_nextV hv (metOf l) (toldAn q) ht hr
theorem tells_outVI {G : Nat → Option Fun} {m : Nat} {live : List Nat} {b : IR} {env : List PV} {h : List Ob} {vw : Views} (hv : VOK (look (number 0 h)) vw) {x : Ex × St} (l : List It) (q : List (An G)) (ht : leaveV m b env h vw (hsOf l) (asOf q) = some (x, owOf l, akOf q)) : Tells G (.loop m live b env h) (.st x.1 x.2) := tells_outV hv (metOf l) (toldAn q) ht
end Go.Pv
namespace Go.Pv
def hS {sz : Nat} {cells : List PV} {rows : List (List PV)} (ro : Nat) (gr : Bool) (h : ViewOK sz cells rows) : It := hQ (seenV (ob := ⟨sz, ro, gr, cells⟩) h)
end Go.Pv
end

section
/-
  What a law is handed, as plain Lean values.
-/
namespace Go.Pv
def okI (k : IntKind) (n : Int) : Prop := (Lit.int k n).wf = true
def okI64 (n : Int) : Prop := -9223372036854775808 ≤ n ∧ n ≤ 9223372036854775807
def okU8 (n : Int) : Prop := 0 ≤ n ∧ n ≤ 255
theorem okI.i64 {n : Int} (h : okI .i64 n) : okI64 n := by
  unfold okI at h
  simp [Lit.wf, IntKind.min, IntKind.max, IntKind.signed, IntKind.bits] at h
  exact h
theorem okI.u8 {n : Int} (h : okI .u8 n) : okU8 n := by
  unfold okI at h
  simp [Lit.wf, IntKind.min, IntKind.max, IntKind.signed, IntKind.bits] at h
  unfold okU8
  omega
def okS (s : ByteArray) : Prop := s.size ≤ 140737488351232
section
variable {Γ : Nat → Option Ty}
theorem OfL.uncons {f : Ty} {fs : List Ty} {c : List PV} (h : OfL Γ (f :: fs) c) : ∃ a b, c = a ++ b ∧ Of Γ f a ∧ OfL Γ fs b := by
  cases h with
  | cons _ _ a b h1 h2 => exact ⟨a, b, rfl, h1, h2⟩
theorem OfL.empty {c : List PV} (h : OfL Γ [] c) : c = [] := by cases h; rfl
theorem Of.str1 {c : List PV} (h : Of Γ .str c) : ∃ s, c = [.str s] ∧ okS s := by
  cases h with
  | str s h => exact ⟨s, rfl, h⟩
theorem Of.int1 {k : IntKind} {c : List PV} (h : Of Γ (.int k) c) : ∃ n, c = [.int k n] ∧ okI k n := by
  cases h with
  | int _ n h => exact ⟨n, rfl, h⟩
theorem Of.i64 {c : List PV} (h : Of Γ (.int .i64) c) : ∃ n, c = [.int .i64 n] ∧ okI64 n := by
  obtain ⟨n, h1, h2⟩ := h.int1
  exact ⟨n, h1, h2.i64⟩
theorem Of.u8 {c : List PV} (h : Of Γ (.int .u8) c) : ∃ n, c = [.int .u8 n] ∧ okU8 n := by
  obtain ⟨n, h1, h2⟩ := h.int1
  exact ⟨n, h1, h2.u8⟩
theorem Of.st1 {fs : List Ty} {c : List PV} (h : Of Γ (.st fs) c) : OfL Γ fs c := by
  cases h with
  | st _ _ h => exact h
theorem choose_rows {α : Type} {f : α → List PV} {ok : α → Prop} : ∀ (l : List (List PV)), (∀ r ∈ l, ∃ x, r = f x ∧ ok x) → ∃ xs : List α, l = xs.map f ∧ ∀ x ∈ xs, ok x
  | [], _ => ⟨[], rfl, fun _ h => absurd h List.not_mem_nil⟩
  | r :: rs, h => by
    obtain ⟨x, hx, hok⟩ := h r List.mem_cons_self
    obtain ⟨xs, hxs, hoks⟩ := choose_rows rs (fun q hq => h q (List.mem_cons_of_mem _ hq))
    refine ⟨x :: xs, by rw [hx, hxs]; rfl, fun y hy => ?_⟩
    rcases List.mem_cons.1 hy with rfl | hy
    · exact hok
    · exact hoks y hy
theorem Arg.one {ty : Ty} {p : PV} (h : Arg Γ ty p) (hs : ty.isSt Γ = false) : Of Γ ty [p] := by
  obtain ⟨c, hc, hp⟩ := h
  rw [hs] at hp
  have hp : c = [p] := hp
  subst hp
  exact hc
theorem Arg.agg {ty : Ty} {p : PV} (h : Arg Γ ty p) (hs : ty.isSt Γ = true) : ∃ c, p = .agg c ∧ Of Γ ty c := by
  obtain ⟨c, hc, hp⟩ := h
  rw [hs] at hp
  exact ⟨c, hp, hc⟩
end
end Go.Pv
end

section
/-
  Strings: equality and order.
-/
namespace Go.Pv
theorem toList_loop (b : ByteArray) : ∀ (n i : Nat) (acc : List UInt8), b.size - i = n → ByteArray.toList.loop b i acc = acc.reverse ++ b.data.toList.drop i := by
  intro n
  induction n with
  | zero =>
    intro i acc h
    unfold ByteArray.toList.loop
    have h1 : ¬ i < b.size := by omega
    rw [if_neg h1]
    have : b.data.toList.drop i = [] := by
      rw [List.drop_eq_nil_iff]
      have : b.data.toList.length = b.size := Array.length_toList
      omega
    rw [this, List.append_nil]
  | succ n ih =>
    intro i acc h
    unfold ByteArray.toList.loop
    have h1 : i < b.size := by omega
    rw [if_pos h1, ih (i + 1) _ (by omega)]
    have hl : i < b.data.toList.length := by rw [show b.data.toList.length = b.size from Array.length_toList]; exact h1
    rw [List.drop_eq_getElem_cons hl, List.reverse_cons, List.append_assoc]
    congr 1
    simp only [List.singleton_append, List.cons.injEq, and_true]
    have : b.data.size = b.size := rfl
    simp [ByteArray.get!, h1, this]
theorem toList_data (b : ByteArray) : b.toList = b.data.toList := by
  unfold ByteArray.toList
  rw [toList_loop b _ 0 [] rfl]
  simp
theorem toList_inj {a b : ByteArray} (h : a.toList = b.toList) : a = b := by
  rw [toList_data, toList_data] at h
  cases a
  cases b
  simp at h
  rw [h]
theorem sEq_iff {a b : ByteArray} : sEq a b = true ↔ a = b := by
  unfold sEq
  rw [beq_iff_eq]
  exact ⟨toList_inj, fun h => by rw [h]⟩
theorem sEq_dec (a b : ByteArray) : sEq a b = decide (a = b) := by
  rw [Bool.eq_iff_iff, sEq_iff]
  simp
mutual
inductive Val where
  | mk (kind n : Int) (s : ByteArray) (list : List Val) (fields : List Fld)
inductive Fld where
  | mk (name : ByteArray) (v : Val)
end
def Val.kind : Val → Int
  | .mk k _ _ _ _ => k
def Val.n : Val → Int
  | .mk _ n _ _ _ => n
def Val.s : Val → ByteArray
  | .mk _ _ s _ _ => s
def Val.list : Val → List Val
  | .mk _ _ _ l _ => l
def Val.fields : Val → List Fld
  | .mk _ _ _ _ f => f
def Fld.name : Fld → ByteArray
  | .mk n _ => n
def Fld.v : Fld → Val
  | .mk _ v => v
mutual
def Val.cs : Val → List PV
  | .mk k n s l f => [.int .i64 k, .int .i64 n, .str s, .sl (Val.css l), .sl (Fld.css f)]
def Val.css : List Val → List (List PV)
  | [] => []
  | v :: r => v.cs :: Val.css r
def Fld.css : List Fld → List (List PV)
  | [] => []
  | f :: r => f.cs :: Fld.css r
def Fld.cs : Fld → List PV
  | .mk n v => .str n :: v.cs
end
def Val.rows (l : List Val) : List (List PV) := Val.css l
def Fld.rows (l : List Fld) : List (List PV) := Fld.css l
def Val.cells (v : Val) : List PV := [.int .i64 v.kind, .int .i64 v.n, .str v.s, .sl (Val.rows v.list), .sl (Fld.rows v.fields)]
def Fld.cells (f : Fld) : List PV := [.str f.name, .int .i64 f.v.kind, .int .i64 f.v.n, .str f.v.s, .sl (Val.rows f.v.list), .sl (Fld.rows f.v.fields)]
theorem Val.cs_eq (v : Val) : v.cs = v.cells := by cases v; rfl
theorem Fld.cs_eq (f : Fld) : f.cs = f.cells := by
  cases f with
  | mk n v => cases v; rfl
theorem Val.rowsCons (v : Val) (l : List Val) : Val.rows (v :: l) = v.cells :: Val.rows l := by
  rw [← Val.cs_eq]
  rfl
theorem Fld.rowsCons (v : Fld) (l : List Fld) : Fld.rows (v :: l) = v.cells :: Fld.rows l := by
  rw [← Fld.cs_eq]
  rfl
theorem Val.rowsMap : ∀ l : List Val, Val.rows l = l.map Val.cells
  | [] => rfl
  | v :: r => by rw [Val.rowsCons, Val.rowsMap r]; rfl
theorem Fld.rowsMap : ∀ l : List Fld, Fld.rows l = l.map Fld.cells
  | [] => rfl
  | v :: r => by rw [Fld.rowsCons, Fld.rowsMap r]; rfl
theorem Val.rowsLen (l : List Val) : (Val.rows l).length = l.length := by simp [Val.rowsMap]
theorem Fld.rowsLen (l : List Fld) : (Fld.rows l).length = l.length := by simp [Fld.rowsMap]
theorem Val.rowsGet {l : List Val} {i : Nat} {x : Val} (h : l[i]? = some x) : (Val.rows l)[i]? = some (Val.cells x) := by rw [Val.rowsMap]; exact Go.Pv.rowsGet h
theorem Fld.rowsGet {l : List Fld} {i : Nat} {x : Fld} (h : l[i]? = some x) : (Fld.rows l)[i]? = some (Fld.cells x) := by rw [Fld.rowsMap]; exact Go.Pv.rowsGet h
theorem Val.lt_list (v : Val) : SizeOf.sizeOf v.list < SizeOf.sizeOf v := by
  cases v with
  | mk k n s l f => simp only [Val.list, Val.mk.sizeOf_spec]; omega
theorem Val.lt_fields (v : Val) : SizeOf.sizeOf v.fields < SizeOf.sizeOf v := by
  cases v with
  | mk k n s l f => simp only [Val.fields, Val.mk.sizeOf_spec]; omega
theorem Fld.lt_v (f : Fld) : SizeOf.sizeOf f.v < SizeOf.sizeOf f := by
  cases f with
  | mk n v => simp only [Fld.v, Fld.mk.sizeOf_spec]; omega
theorem szL {v x : Val} {i : Nat} (h : v.list[i]? = some x) : SizeOf.sizeOf x < SizeOf.sizeOf v :=
  Nat.lt_trans (List.sizeOf_lt_of_mem (mem_get h)) v.lt_list
theorem szF {v : Val} {x : Fld} {i : Nat} (h : v.fields[i]? = some x) : SizeOf.sizeOf x.v < SizeOf.sizeOf v :=
  Nat.lt_trans x.lt_v (Nat.lt_trans (List.sizeOf_lt_of_mem (mem_get h)) v.lt_fields)
/-- every list within is of at most B elements -/
inductive Val.Sm (B : Nat) : Val → Prop
  | mk (v : Val) (hl : v.list.length ≤ B) (hf : v.fields.length ≤ B) (sl : ∀ x ∈ v.list, Val.Sm B x) (sf : ∀ x ∈ v.fields, Val.Sm B x.v) : Val.Sm B v
theorem Val.Sm.all {B : Nat} {v : Val} (h : Val.Sm B v) : v.list.length ≤ B ∧ v.fields.length ≤ B ∧ (∀ x ∈ v.list, Val.Sm B x) ∧ (∀ x ∈ v.fields, Val.Sm B x.v) := by
  cases h with
  | mk _ h1 h2 h3 h4 => exact ⟨h1, h2, h3, h4⟩
theorem Val.Sm.mono {B C : Nat} (hb : B ≤ C) {v : Val} (h : Val.Sm B v) : Val.Sm C v := by
  induction h with
  | mk v h1 h2 _ _ i1 i2 => exact .mk v (by omega) (by omega) i1 i2
theorem Val.Sm.leaf {B : Nat} (k n : Int) (s : ByteArray) : Val.Sm B (.mk k n s [] []) := .mk _ (Nat.zero_le _) (Nat.zero_le _) (fun _ h => by cases h) (fun _ h => by cases h)
theorem Val.Sm.getD {B : Nat} {l : List Val} (h : ∀ x ∈ l, Val.Sm B x) (i : Nat) (k n : Int) (s : ByteArray) : Val.Sm B (l.getD i (.mk k n s [] [])) := by
  by_cases c : i < l.length
  · have := getD_ok l i (.mk k n s [] []) c
    exact h _ (mem_get this)
  · rw [List.getD_eq_getElem?_getD, List.getElem?_eq_none (by omega)]
    exact .leaf k n s
theorem Val.Sm.getF {B : Nat} {l : List Fld} (h : ∀ x ∈ l, Val.Sm B x.v) (i : Nat) (m : ByteArray) (k n : Int) (s : ByteArray) : Val.Sm B (l.getD i (.mk m (.mk k n s [] []))).v := by
  by_cases c : i < l.length
  · have := getD_ok l i (.mk m (.mk k n s [] [])) c
    exact h _ (mem_get this)
  · rw [List.getD_eq_getElem?_getD, List.getElem?_eq_none (by omega)]
    exact .leaf k n s
/-- what is known of a tree that a law is handed -/
inductive Val_ok : Val → Prop
  | mk (v : Val) (h1 : okI64 v.kind) (h2 : okI64 v.n) (h3 : okS v.s) (hl : v.list.length * 80 ≤ 140737488351232) (hf : v.fields.length * 96 ≤ 140737488351232) (sl : ∀ x ∈ v.list, Val_ok x) (sn : ∀ x ∈ v.fields, okS x.name) (sf : ∀ x ∈ v.fields, Val_ok x.v) : Val_ok v
def Fld_ok (f : Fld) : Prop := okS f.name ∧ Val_ok f.v
theorem Val_ok.all {v : Val} (h : Val_ok v) : okI64 v.kind ∧ okI64 v.n ∧ okS v.s ∧ v.list.length * 80 ≤ 140737488351232 ∧ v.fields.length * 96 ≤ 140737488351232 ∧ (∀ x ∈ v.list, Val_ok x) ∧ (∀ x ∈ v.fields, okS x.name ∧ Val_ok x.v) := by
  cases h with
  | mk _ a b c d e f n g => exact ⟨a, b, c, d, e, f, fun x hx => ⟨n x hx, g x hx⟩⟩
theorem Val_ok.sm {v : Val} (h : Val_ok v) : Val.Sm 4611686018427387904 v := by
  induction h with
  | mk v _ _ _ hl hf _ _ _ i1 i2 => exact .mk v (by omega) (by omega) i1 i2
def Val_body (t : Nat) : Ty := .st [.int .i64, .int .i64, .str, .sl 80 (.nm t), .sl 96 (.st [.str, .nm t])]
theorem Val_openN {Γ : Nat → Option Ty} {t : Nat} (hΓ : Γ t = some (Val_body t)) : ∀ (k : Nat) (c : List PV), SizeOf.sizeOf c < k → Of Γ (.nm t) c → ∃ v : Val, c = v.cells ∧ Val_ok v
  | 0, _, h, _ => absurd h (Nat.not_lt_zero _)
  | k + 1, c, hk, h => by
    have hb : Of Γ (Val_body t) c := by
      cases h with
      | nm _ ty _ hg h =>
        rw [hΓ] at hg
        injection hg with hg
        subst hg
        exact h
    have g0 := hb.st1
    obtain ⟨a0, b0, rfl, h0, g1⟩ := g0.uncons
    obtain ⟨x0, rfl, k0⟩ := h0.i64
    obtain ⟨a1, b1, rfl, h1, g2⟩ := g1.uncons
    obtain ⟨x1, rfl, k1⟩ := h1.i64
    obtain ⟨a2, b2, rfl, h2, g3⟩ := g2.uncons
    obtain ⟨x2, rfl, k2⟩ := h2.str1
    obtain ⟨a3, b3, rfl, h3, g4⟩ := g3.uncons
    obtain ⟨a4, b4, rfl, h4, g5⟩ := g4.uncons
    have e := g5.empty
    subst e
    cases h3 with
    | sl _ _ l3 hl3 hr3 =>
    cases h4 with
    | sl _ _ l4 hl4 hr4 =>
    have s3 : SizeOf.sizeOf l3 < k := by simp at hk; omega
    have s4 : SizeOf.sizeOf l4 < k := by simp at hk; omega
    obtain ⟨x3, rfl, k3⟩ := choose_rows (f := Val.cells) (ok := Val_ok) l3 (fun r hr' => Val_openN hΓ k r (by have := List.sizeOf_lt_of_mem hr'; omega) (hr3 r hr'))
    obtain ⟨x4, rfl, k4⟩ := choose_rows (f := Fld.cells) (ok := Fld_ok) l4 (fun r hr' => by
      have q0 := (hr4 r hr').st1
      obtain ⟨c0, d0, rfl, i0, q1⟩ := q0.uncons
      obtain ⟨y0, rfl, m0⟩ := i0.str1
      obtain ⟨c1, d1, rfl, i1, q2⟩ := q1.uncons
      have e := q2.empty
      subst e
      obtain ⟨y1, rfl, m1⟩ := Val_openN hΓ k c1 (by have := List.sizeOf_lt_of_mem hr'; simp at this; omega) i1
      exact ⟨.mk y0 y1, by simp [Fld.cells, Val.cells, Fld.name, Fld.v], m0, m1⟩)
    rw [List.length_map] at hl3 hl4
    refine ⟨.mk x0 x1 x2 x3 x4, ?_, .mk _ k0 k1 k2 hl3 hl4 k3 (fun x hx => (k4 x hx).1) (fun x hx => (k4 x hx).2)⟩
    simp [Val.cells, Val.kind, Val.n, Val.s, Val.list, Val.fields, Val.rowsMap, Fld.rowsMap]
theorem Val_open {Γ : Nat → Option Ty} {t : Nat} (hΓ : Γ t = some (Val_body t)) {c : List PV} (h : Of Γ (.nm t) c) : ∃ v : Val, c = v.cells ∧ Val_ok v := Val_openN hΓ _ c (Nat.lt_succ_self _) h
theorem lt_head {α : Type} [SizeOf α] (x : α) (r : List α) : SizeOf.sizeOf x < SizeOf.sizeOf (x :: r) := by
  simp only [List.cons.sizeOf_spec]
  omega
theorem lt_tail {α : Type} [SizeOf α] (x : α) (r : List α) : SizeOf.sizeOf r < SizeOf.sizeOf (x :: r) := by
  simp only [List.cons.sizeOf_spec]
  omega
theorem lt_headv (x : Fld) (r : List Fld) : SizeOf.sizeOf x.v < SizeOf.sizeOf (x :: r) := Nat.lt_trans x.lt_v (lt_head x r)
def gam (t : Nat) : Nat → Option Ty := fun k => bif Nat.beq k t then some (Val_body t) else none
theorem gam_at (t : Nat) : gam t t = some (Val_body t) := by simp [gam]
theorem gam_tab {P : Program} {t : Nat} (h : chkTy P (gam t) (Val_body t) t = true) : TabOK P (gam t) := by
  intro k ty hk
  unfold gam at hk
  cases c : Nat.beq k t with
  | false => rw [c] at hk; cases hk
  | true =>
    rw [c] at hk
    simp only [cond_true, Option.some.injEq] at hk
    subst hk
    rw [Nat.eq_of_beq_eq_true c]
    exact ⟨rfl, h⟩
end Go.Pv
namespace Go.Pv
end Go.Pv
end

section
/- Strings byte by byte; rows that are cloned. -/
namespace Go.Pv
end Go.Pv
namespace Go.Pv
theorem szM {v x : Val} (h : x ∈ v.list) : SizeOf.sizeOf x < SizeOf.sizeOf v := Nat.lt_trans (List.sizeOf_lt_of_mem h) v.lt_list
theorem szN {v : Val} {x : Fld} (h : x ∈ v.fields) : SizeOf.sizeOf x.v < SizeOf.sizeOf v := Nat.lt_trans x.lt_v (Nat.lt_trans (List.sizeOf_lt_of_mem h) v.lt_fields)
end Go.Pv
end

section
/-
  What a law is handed, where its bulk is bounded: nothing within is longer.
-/
namespace Go.Pv
open Go.RowKit
/-- nothing within is longer than N -/
inductive Cap (N : Nat) : PV → Prop
  | bool (b : Bool) : Cap N (.bool b)
  | int (k : IntKind) (n : Int) : Cap N (.int k n)
  | str (s : ByteArray) (h : s.size ≤ N) : Cap N (.str s)
  | sl (l : List (List PV)) (h : l.length ≤ N) (hl : ∀ r ∈ l, ∀ p ∈ r, Cap N p) : Cap N (.sl l)
def CapL (N : Nat) (c : List PV) : Prop := ∀ p ∈ c, Cap N p
theorem CapL.one {N : Nat} {p : PV} (h : Cap N p) : CapL N [p] := fun q hq => by
  rw [List.mem_singleton] at hq
  subst hq
  exact h
inductive CapD {H : Type} (N : Nat) : DataW H → Prop
  | lit (l : Lit) (h : ∀ b, l = .string b → b.length ≤ N) : CapD N (.lit l)
  | agg (parts : List (DataW H)) (h : ∀ d ∈ parts, CapD N d) : CapD N (.agg parts)
  | slice (elems spare : List (DataW H)) (h : elems.length ≤ N) (hl : ∀ d ∈ elems, CapD N d) : CapD N (.slice elems spare)
  | nil : CapD N .nil
  | ptr (d : DataW H) : CapD N (.ptr d)
  | iface (t : String) (d : DataW H) : CapD N (.iface t d)
  | map (e : List (Lit × DataW H)) : CapD N (.map e)
  | held (h : H) : CapD N (.held h)
def ArgB (Γ : Nat → Option Ty) (N : Nat) (ty : Ty) (p : PV) : Prop := ∃ c, Of Γ ty c ∧ CapL N c ∧ (bif ty.isSt Γ then p = .agg c else c = [p])
section
variable {H : Type} {enc : TypeId × Value → H} {P : Program} {w : World} {base : Nat} {sp : Nat → Bool} {held : Bool} {Γ : Nat → Option Ty} {N : Nat}
end
theorem ArgB.one {Γ : Nat → Option Ty} {N : Nat} {ty : Ty} {p : PV} (h : ArgB Γ N ty p) (hs : ty.isSt Γ = false) : Of Γ ty [p] ∧ CapL N [p] := by
  obtain ⟨c, hc, hb, hp⟩ := h
  rw [hs] at hp
  have hp : c = [p] := hp
  subst hp
  exact ⟨hc, hb⟩
theorem ArgB.agg {Γ : Nat → Option Ty} {N : Nat} {ty : Ty} {p : PV} (h : ArgB Γ N ty p) (hs : ty.isSt Γ = true) : ∃ c, p = .agg c ∧ Of Γ ty c ∧ CapL N c := by
  obtain ⟨c, hc, hb, hp⟩ := h
  rw [hs] at hp
  exact ⟨c, hp, hc, hb⟩
end Go.Pv
end

section
/- What the functions of the chapter on values compute (printed by a program). -/
namespace Go.Proofs.Ytedohmdgbilicaa
open Go.Pv
abbrev G : Nat → Option Fun := tabG Ir.table
abbrev Γ : Nat → Option Ty := gam 25
theorem t_cmpstr (a b : ByteArray) : Tells G (.call 62 [.str a, .str b] []) (.ret (.int .i64 (sCmp a b)) []) := ⟨1, by kernel_rfl⟩
inductive R_Ks_b1 where
  | k0 (q0 : Int)
  | k1
mutual
def s_Ks (p0 : Val) (p1 : Int) (p2 : Int) : Int :=
  bif (decide (p1 ≤ 0)) then
    (-1)
  else
    bif (decide (p2 ≤ 0)) then
      (-1)
    else
      bif (decide (1000 < (ByteArray.size p0.s : Int))) then
        (-1)
      else
        (match (l_Ks_b1 p0 p2 p0.fields 0 (l_Ks_b0 p0 p2 p0.list 0 (w64 (p1 - 1)))) with
        | .k0 y4_0 => y4_0
        | .k1 => (-1))
termination_by SizeOf.sizeOf p0
decreasing_by all_goals first | exact Val.lt_list _ | exact Val.lt_fields _ | exact lt_head _ _ | exact lt_tail _ _ | exact lt_headv _ _
def l_Ks_b0 (p0 : Val) (p2 : Int) : List Val → Nat → Int → Int
  | [], _i0, v0_1 =>
    v0_1
  | x0 :: r0, i0, v0_1 =>
    bif (decide (0 ≤ v0_1)) then
      l_Ks_b0 p0 p2 r0 (i0 + 1) (s_Ks x0 v0_1 (w64 (p2 - 1)))
    else
      v0_1
termination_by l => SizeOf.sizeOf l
decreasing_by all_goals first | exact Val.lt_list _ | exact Val.lt_fields _ | exact lt_head _ _ | exact lt_tail _ _ | exact lt_headv _ _
def l_Ks_b1 (p0 : Val) (p2 : Int) : List Fld → Nat → Int → R_Ks_b1
  | [], _i1, v1_1 =>
    (.k0 v1_1)
  | x1 :: r1, i1, v1_1 =>
    bif (decide (0 ≤ v1_1)) then
      bif (decide (1000 < (ByteArray.size x1.name : Int))) then
        (.k1)
      else
        l_Ks_b1 p0 p2 r1 (i1 + 1) (s_Ks x1.v v1_1 (w64 (p2 - 1)))
    else
      (.k0 v1_1)
termination_by l => SizeOf.sizeOf l
decreasing_by all_goals first | exact Val.lt_list _ | exact Val.lt_fields _ | exact lt_head _ _ | exact lt_tail _ _ | exact lt_headv _ _
end
def HE_Ks_b0 (_p0 : Val) (p2 : Int) (i0 : Nat) (v0_1 : Int) : List PV :=
  [.un, .int .i64 v0_1, .int .i64 p2, .bx 0 0, .un, .un, .un, .int .i64 (i0 : Int), .un, .un, .un, .un, .un, .un, .un, .un, .un, .un, .un, .un, .un, .un, .un, .un, .un, .un, .un, .un, .un, .un, .un, .un, .un, .un, .un, .un, .un, .un, .un, .un, .un, .un, .un, .un, .un, .un, .un, .un, .un, .un, .un, .un, .un, .un, .un, .un, .un, .un, .un, .un, .un, .un, .un, .un, .un, .un, .un, .un, .un, .un, .un, .un, .un]
def HO_Ks_b0 (p0 : Val) (_p2 : Int) (_i0 : Nat) (_v0_1 : Int) : List Ob :=
  [⟨5, 0, true, [.int .i64 p0.kind, .int .i64 p0.n, .str p0.s, .sl (Val.rows p0.list), .sl (Fld.rows p0.fields)]⟩]
def E_Ks_b0 (p0 : Val) (p2 : Int) (i0 : Nat) (v0_1 : Int) : En := .loop 0 Ir.Ks_b0_live Ir.Ks_b0 (HE_Ks_b0 p0 p2 i0 v0_1) (HO_Ks_b0 p0 p2 i0 v0_1)
def S_Ks_b0_0 (p0 : Val) (p2 : Int) (q0 : Int) (z : Nat → PV) (_zo : Nat → List PV) : St :=
  ⟨[z 0, .int .i64 q0, .int .i64 p2, .bx 0 0, z 4, z 5, z 6, z 7, z 8, z 9, z 10, z 11, z 12, z 13, z 14, z 15, z 16, z 17, z 18, z 19, z 20, z 21, z 22, z 23, z 24, z 25, z 26, z 27, z 28, z 29, z 30, z 31, z 32, z 33, z 34, z 35, z 36, z 37, z 38, z 39, z 40, z 41, z 42, z 43, z 44, z 45, z 46, z 47, z 48, z 49, z 50, z 51, z 52, z 53, z 54, z 55, z 56, z 57, z 58, z 59, z 60, z 61, z 62, z 63, z 64, z 65, z 66, z 67, z 68, z 69, z 70, z 71, z 72], [(0, ⟨5, 0, true, [.int .i64 p0.kind, .int .i64 p0.n, .str p0.s, .sl (Val.rows p0.list), .sl (Fld.rows p0.fields)]⟩)], 577⟩
def P_Ks_b0 (p0 : Val) (p2 : Int) (e : En) (q : Int) : Prop := ∃ z zo, Tells G e (.st (.exit 0) (S_Ks_b0_0 p0 p2 q z zo))
theorem P_Ks_b0_mono (p0 : Val) (p2 : Int) {e e' : En} (h : ∀ r, Tells G e r → Tells G e' r) : ∀ q, P_Ks_b0 p0 p2 e q → P_Ks_b0 p0 p2 e' q
  | _, ⟨z, zo, hz⟩ => ⟨z, zo, h _ hz⟩
def HE_Ks_b1 (_p0 : Val) (p2 : Int) (i1 : Nat) (v1_1 : Int) : List PV :=
  [.un, .int .i64 v1_1, .int .i64 p2, .bx 0 0, .un, .un, .un, .un, .int .i64 (i1 : Int), .un, .un, .un, .un, .un, .un, .un, .un, .un, .un, .un, .un, .un, .un, .un, .un, .un, .un, .un, .un, .un, .un, .un, .un, .un, .un, .un, .un, .un, .un, .un, .un, .un, .un, .un, .un, .un, .un, .un, .un, .un, .un, .un, .un, .un, .un, .un, .un, .un, .un, .un, .un, .un, .un, .un, .un, .un, .un, .un, .un, .un, .un, .un, .un]
def HO_Ks_b1 (p0 : Val) (_p2 : Int) (_i1 : Nat) (_v1_1 : Int) : List Ob :=
  [⟨5, 0, true, [.int .i64 p0.kind, .int .i64 p0.n, .str p0.s, .sl (Val.rows p0.list), .sl (Fld.rows p0.fields)]⟩]
def E_Ks_b1 (p0 : Val) (p2 : Int) (i1 : Nat) (v1_1 : Int) : En := .loop 0 Ir.Ks_b1_live Ir.Ks_b1 (HE_Ks_b1 p0 p2 i1 v1_1) (HO_Ks_b1 p0 p2 i1 v1_1)
def S_Ks_b1_0 (p0 : Val) (_p2 : Int) (q0 : Int) (z : Nat → PV) (_zo : Nat → List PV) : St :=
  ⟨[z 0, .int .i64 q0, z 2, z 3, z 4, z 5, z 6, z 7, z 8, z 9, z 10, z 11, z 12, z 13, z 14, z 15, z 16, z 17, z 18, z 19, z 20, z 21, z 22, z 23, z 24, z 25, z 26, z 27, z 28, z 29, z 30, z 31, z 32, z 33, z 34, z 35, z 36, z 37, z 38, z 39, z 40, z 41, z 42, z 43, z 44, z 45, z 46, z 47, z 48, z 49, z 50, z 51, z 52, z 53, z 54, z 55, z 56, z 57, z 58, z 59, z 60, z 61, z 62, z 63, z 64, z 65, z 66, z 67, z 68, z 69, z 70, z 71, z 72], [(0, ⟨5, 0, true, [.int .i64 p0.kind, .int .i64 p0.n, .str p0.s, .sl (Val.rows p0.list), .sl (Fld.rows p0.fields)]⟩)], 577⟩
def S_Ks_b1_1 (_p0 : Val) (_p2 : Int) (z : Nat → PV) (zo : Nat → List PV) : St :=
  ⟨[z 0, z 1, z 2, z 3, z 4, z 5, .int .i64 (-1), z 7, z 8, z 9, z 10, z 11, z 12, z 13, z 14, z 15, z 16, z 17, z 18, z 19, z 20, z 21, z 22, z 23, z 24, z 25, z 26, z 27, z 28, z 29, z 30, z 31, z 32, z 33, z 34, z 35, z 36, z 37, z 38, z 39, z 40, z 41, z 42, z 43, z 44, z 45, z 46, z 47, z 48, z 49, z 50, z 51, z 52, z 53, z 54, z 55, z 56, z 57, z 58, z 59, z 60, z 61, z 62, z 63, z 64, z 65, z 66, z 67, z 68, z 69, z 70, z 71, z 72], [(0, ⟨5, 0, true, zo 0⟩)], 1153⟩
def P_Ks_b1 (p0 : Val) (p2 : Int) (e : En) : R_Ks_b1 → Prop
  | .k0 q0 => ∃ z zo, Tells G e (.st (.exit 2) (S_Ks_b1_0 p0 p2 q0 z zo))
  | .k1 => ∃ z zo, Tells G e (.st .ret (S_Ks_b1_1 p0 p2 z zo))
theorem P_Ks_b1_mono (p0 : Val) (p2 : Int) {e e' : En} (h : ∀ r, Tells G e r → Tells G e' r) : ∀ q, P_Ks_b1 p0 p2 e q → P_Ks_b1 p0 p2 e' q
  | .k0 _, ⟨z, zo, hz⟩ => ⟨z, zo, h _ hz⟩
  | .k1, ⟨z, zo, hz⟩ => ⟨z, zo, h _ hz⟩
def c_Ks (p0 : Val) (p1 : Int) (p2 : Int) : En := .call 56 [.agg (Val.cells p0), .int .i64 p1, .int .i64 p2] []
def a_Ks (p0 : Val) (p1 : Int) (p2 : Int) : Rs := .ret (.int .i64 (s_Ks p0 p1 p2)) []
abbrev H_Ks (p0 : Val) : Prop := Val.Sm 4611686018427387904 p0
def Rec_Ks (p0 : Val) : Prop := ∀ (q : Val), SizeOf.sizeOf q < SizeOf.sizeOf p0 → ∀ (p1 : Int), ∀ (p2 : Int), H_Ks q → Tells G (c_Ks q p1 p2) (a_Ks q p1 p2)
def H_Ks_b0 (p0 : Val) (_p2 : Int) : Prop := (List.length p0.list ≤ 4611686018427387904) ∧ (∀ x0 ∈ p0.list, H_Ks x0) ∧ True
def H_Ks_b1 (p0 : Val) (_p2 : Int) : Prop := (List.length p0.fields ≤ 4611686018427387904) ∧ (∀ x1 ∈ p0.fields, H_Ks x1.v) ∧ True
theorem give_Ks (p0 : Val) (_p1 : Int) (p2 : Int) (H : H_Ks p0) : (H_Ks_b0 p0 p2) ∧ (H_Ks_b1 p0 p2) ∧ True := by
  obtain ⟨h1, h2, h3, h4⟩ := H.all
  simp only [H_Ks_b0, H_Ks_b1]
  exact ⟨⟨h1, h3, trivial⟩, ⟨h2, h4, trivial⟩, trivial⟩
def Z_Ks_b0_0 (p0 : Val) (_p2 : Int) (i0 : Nat) (_v0_1 : Int) : List PV :=
  [.un, .un, .un, .un, .un, .un, .un, .int .i64 (i0 : Int), .un, .un, .un, .un, .un, .un, .un, .un, .un, .un, .un, .un, .un, .un, .un, .int .i64 (i0 : Int), .bx 0 3, .sl (Val.rows p0.list), .int .i64 ((List.length p0.list) : Int), .bool false, .bool false, .tup [], .tup [], .bool false]
def ZO_Ks_b0_0 (_p0 : Val) (_p2 : Int) (_i0 : Nat) (_v0_1 : Int) : List (Nat × List PV) :=
  []
theorem x_Ks_b0_0 (p0 : Val) (p2 : Int) (_H : H_Ks_b0 p0 p2) (_rec : Rec_Ks p0) (i0 : Nat) (v0_1 : Int) (hc0 : (decide ((i0 : Int) < ((List.length p0.list) : Int))) = false) : P_Ks_b0 p0 p2 (E_Ks_b0 p0 p2 i0 v0_1) v0_1 := by
  exact ⟨(envF (Z_Ks_b0_0 p0 p2 i0 v0_1)), (zoF (ZO_Ks_b0_0 p0 p2 i0 v0_1)), tells_outVI VOK.nil (x := ((.exit 0), S_Ks_b0_0 p0 p2 v0_1 (envF (Z_Ks_b0_0 p0 p2 i0 v0_1)) (zoF (ZO_Ks_b0_0 p0 p2 i0 v0_1)))) [hP 3 (len_ok (Val.rows p0.list) (List.length p0.list) (Val.rowsLen p0.list)), hB 0 hc0] [] (by kernel_rfl)⟩
theorem n_Ks_b0_1 (p0 : Val) (p2 : Int) (H : H_Ks_b0 p0 p2) (rec : Rec_Ks p0) (x0 : Val) (i0 : Nat) (v0_1 : Int) (hx0 : p0.list[i0]? = some x0) (hi0 : i0 < List.length p0.list) (hc0 : (decide ((i0 : Int) < ((List.length p0.list) : Int))) = true) (h0 : (decide (0 ≤ v0_1)) = true) {r : Rs} (hr : Tells G (E_Ks_b0 p0 p2 (i0 + 1) (s_Ks x0 v0_1 (w64 (p2 - 1)))) r) : Tells G (E_Ks_b0 p0 p2 i0 v0_1) r := by
  have hB0 := H.1; have e0 := of_decide_eq_true h0
  exact tells_nextVI VOK.nil (y := (HE_Ks_b0 p0 p2 (i0 + 1) (s_Ks x0 v0_1 (w64 (p2 - 1))), HO_Ks_b0 p0 p2 (i0 + 1) (s_Ks x0 v0_1 (w64 (p2 - 1))))) [hP 3 (len_ok (Val.rows p0.list) (List.length p0.list) (Val.rowsLen p0.list)), hB 0 hc0, hB 2 h0, hP 4 (ix_ok 5 (Val.rows p0.list) i0 _ (Val.rowsGet hx0) rfl), hP 7 (inc_ok i0 (by omega))] [aN (rec x0 (szL hx0) v0_1 (w64 (p2 - 1)) (H.2.1 x0 (mem_get hx0)))] (by kernel_rfl) hr
def Z_Ks_b0_2 (p0 : Val) (_p2 : Int) (i0 : Nat) (v0_1 : Int) (_x0 : Val) : List PV :=
  [.un, .un, .un, .un, .un, .un, .un, .int .i64 (i0 : Int), .un, .un, .un, .un, .un, .un, .un, .un, .un, .un, .un, .un, .un, .un, .un, .int .i64 (i0 : Int), .bx 0 3, .sl (Val.rows p0.list), .int .i64 ((List.length p0.list) : Int), .bool true, .bool true, .int .i64 v0_1, .bool false, .bool false]
def ZO_Ks_b0_2 (_p0 : Val) (_p2 : Int) (_i0 : Nat) (_v0_1 : Int) (_x0 : Val) : List (Nat × List PV) :=
  []
theorem x_Ks_b0_2 (p0 : Val) (p2 : Int) (_H : H_Ks_b0 p0 p2) (_rec : Rec_Ks p0) (x0 : Val) (i0 : Nat) (v0_1 : Int) (_hx0 : p0.list[i0]? = some x0) (_hi0 : i0 < List.length p0.list) (hc0 : (decide ((i0 : Int) < ((List.length p0.list) : Int))) = true) (h0 : (decide (0 ≤ v0_1)) = false) : P_Ks_b0 p0 p2 (E_Ks_b0 p0 p2 i0 v0_1) v0_1 := by
  exact ⟨(envF (Z_Ks_b0_2 p0 p2 i0 v0_1 x0)), (zoF (ZO_Ks_b0_2 p0 p2 i0 v0_1 x0)), tells_outVI VOK.nil (x := ((.exit 0), S_Ks_b0_0 p0 p2 v0_1 (envF (Z_Ks_b0_2 p0 p2 i0 v0_1 x0)) (zoF (ZO_Ks_b0_2 p0 p2 i0 v0_1 x0)))) [hP 3 (len_ok (Val.rows p0.list) (List.length p0.list) (Val.rowsLen p0.list)), hB 0 hc0, hB 2 h0] [] (by kernel_rfl)⟩
theorem lt_Ks_b0 (p0 : Val) (p2 : Int) (H : H_Ks_b0 p0 p2) (rec : Rec_Ks p0) : ∀ (r0 : List Val) (i0 : Nat) (v0_1 : Int), List.drop i0 p0.list = r0 → P_Ks_b0 p0 p2 (E_Ks_b0 p0 p2 i0 v0_1) (l_Ks_b0 p0 p2 r0 i0 v0_1)
  | [], i0, v0_1, hd => by
    have hc0 : (decide ((i0 : Int) < ((List.length p0.list) : Int))) = false := by have := drop_end hd; simp; omega
    rw [l_Ks_b0]
    exact x_Ks_b0_0 p0 p2 H rec i0 v0_1 hc0
  | x0 :: r0, i0, v0_1, hd => by
    obtain ⟨hx0, hi0, hd'⟩ := drop_get hd
    have hc0 : (decide ((i0 : Int) < ((List.length p0.list) : Int))) = true := by simp; omega
    rw [l_Ks_b0]
    cases h0 : (decide (0 ≤ v0_1)) with
    | true =>
     exact P_Ks_b0_mono p0 p2 (fun r hr => n_Ks_b0_1 p0 p2 H rec x0 i0 v0_1 hx0 hi0 hc0 h0 hr) _ (lt_Ks_b0 p0 p2 H rec r0 (i0 + 1) (s_Ks x0 v0_1 (w64 (p2 - 1))) hd')
    | false =>
     exact x_Ks_b0_2 p0 p2 H rec x0 i0 v0_1 hx0 hi0 hc0 h0
def Z_Ks_b1_0 (p0 : Val) (p2 : Int) (i1 : Nat) (_v1_1 : Int) : List PV :=
  [.un, .un, .int .i64 p2, .bx 0 0, .un, .un, .un, .un, .int .i64 (i1 : Int), .un, .un, .un, .un, .un, .un, .un, .un, .un, .un, .un, .un, .un, .un, .un, .un, .un, .un, .un, .un, .un, .un, .un, .un, .un, .un, .un, .un, .un, .un, .un, .un, .un, .un, .int .i64 (i1 : Int), .bx 0 4, .sl (Fld.rows p0.fields), .int .i64 ((List.length p0.fields) : Int), .bool false, .bool false, .tup [], .tup [], .bool false]
def ZO_Ks_b1_0 (_p0 : Val) (_p2 : Int) (_i1 : Nat) (_v1_1 : Int) : List (Nat × List PV) :=
  []
theorem x_Ks_b1_0 (p0 : Val) (p2 : Int) (_H : H_Ks_b1 p0 p2) (_rec : Rec_Ks p0) (i1 : Nat) (v1_1 : Int) (hc1 : (decide ((i1 : Int) < ((List.length p0.fields) : Int))) = false) : P_Ks_b1 p0 p2 (E_Ks_b1 p0 p2 i1 v1_1) (.k0 v1_1) := by
  exact ⟨(envF (Z_Ks_b1_0 p0 p2 i1 v1_1)), (zoF (ZO_Ks_b1_0 p0 p2 i1 v1_1)), tells_outVI VOK.nil (x := ((.exit 2), S_Ks_b1_0 p0 p2 v1_1 (envF (Z_Ks_b1_0 p0 p2 i1 v1_1)) (zoF (ZO_Ks_b1_0 p0 p2 i1 v1_1)))) [hP 3 (len_ok (Fld.rows p0.fields) (List.length p0.fields) (Fld.rowsLen p0.fields)), hB 0 hc1] [] (by kernel_rfl)⟩
def Z_Ks_b1_1 (p0 : Val) (p2 : Int) (i1 : Nat) (v1_1 : Int) (x1 : Fld) : List PV :=
  [.un, .int .i64 v1_1, .int .i64 p2, .bx 0 0, .un, .un, .un, .un, .int .i64 (i1 : Int), .un, .un, .un, .un, .un, .un, .un, .un, .un, .un, .un, .un, .un, .un, .un, .un, .un, .un, .un, .un, .un, .un, .un, .un, .un, .un, .un, .un, .un, .un, .un, .un, .un, .un, .int .i64 (i1 : Int), .bx 0 4, .sl (Fld.rows p0.fields), .int .i64 ((List.length p0.fields) : Int), .bool true, .bool true, .int .i64 v1_1, .bool true, .bool true, .un, .un, .bx 0 4, .sl (Fld.rows p0.fields), .int .i64 (i1 : Int), .rf [.str x1.name, .int .i64 x1.v.kind, .int .i64 x1.v.n, .str x1.v.s, .sl (Val.rows x1.v.list), .sl (Fld.rows x1.v.fields)], .rf [.str x1.name, .int .i64 x1.v.kind, .int .i64 x1.v.n, .str x1.v.s, .sl (Val.rows x1.v.list), .sl (Fld.rows x1.v.fields)], .str x1.name, .int .i64 (ByteArray.size x1.name : Int), .bool true]
def ZO_Ks_b1_1 (p0 : Val) (_p2 : Int) (_i1 : Nat) (_v1_1 : Int) (_x1 : Fld) : List (Nat × List PV) :=
  [(0, [.int .i64 p0.kind, .int .i64 p0.n, .str p0.s, .sl (Val.rows p0.list), .sl (Fld.rows p0.fields)])]
theorem x_Ks_b1_1 (p0 : Val) (p2 : Int) (_H : H_Ks_b1 p0 p2) (_rec : Rec_Ks p0) (x1 : Fld) (i1 : Nat) (v1_1 : Int) (hx1 : p0.fields[i1]? = some x1) (_hi1 : i1 < List.length p0.fields) (hc1 : (decide ((i1 : Int) < ((List.length p0.fields) : Int))) = true) (h0 : (decide (0 ≤ v1_1)) = true) (h1 : (decide (1000 < (ByteArray.size x1.name : Int))) = true) : P_Ks_b1 p0 p2 (E_Ks_b1 p0 p2 i1 v1_1) (.k1) := by
  exact ⟨(envF (Z_Ks_b1_1 p0 p2 i1 v1_1 x1)), (zoF (ZO_Ks_b1_1 p0 p2 i1 v1_1 x1)), tells_outVI VOK.nil (x := (.ret, S_Ks_b1_1 p0 p2 (envF (Z_Ks_b1_1 p0 p2 i1 v1_1 x1)) (zoF (ZO_Ks_b1_1 p0 p2 i1 v1_1 x1)))) [hP 3 (len_ok (Fld.rows p0.fields) (List.length p0.fields) (Fld.rowsLen p0.fields)), hB 0 hc1, hB 2 h0, hP 4 (ix_ok 6 (Fld.rows p0.fields) i1 _ (Fld.rowsGet hx1) rfl), hB 3 h1] [] (by kernel_rfl)⟩
theorem n_Ks_b1_2 (p0 : Val) (p2 : Int) (H : H_Ks_b1 p0 p2) (rec : Rec_Ks p0) (x1 : Fld) (i1 : Nat) (v1_1 : Int) (hx1 : p0.fields[i1]? = some x1) (hi1 : i1 < List.length p0.fields) (hc1 : (decide ((i1 : Int) < ((List.length p0.fields) : Int))) = true) (h0 : (decide (0 ≤ v1_1)) = true) (h1 : (decide (1000 < (ByteArray.size x1.name : Int))) = false) {r : Rs} (hr : Tells G (E_Ks_b1 p0 p2 (i1 + 1) (s_Ks x1.v v1_1 (w64 (p2 - 1)))) r) : Tells G (E_Ks_b1 p0 p2 i1 v1_1) r := by
  have hB0 := H.1; have e0 := of_decide_eq_true h0; have e1 := of_decide_eq_false h1
  exact tells_nextVI VOK.nil (y := (HE_Ks_b1 p0 p2 (i1 + 1) (s_Ks x1.v v1_1 (w64 (p2 - 1))), HO_Ks_b1 p0 p2 (i1 + 1) (s_Ks x1.v v1_1 (w64 (p2 - 1))))) [hP 3 (len_ok (Fld.rows p0.fields) (List.length p0.fields) (Fld.rowsLen p0.fields)), hB 0 hc1, hB 2 h0, hP 4 (ix_ok 6 (Fld.rows p0.fields) i1 _ (Fld.rowsGet hx1) rfl), hB 3 h1, hP 3 (ix_ok 6 (Fld.rows p0.fields) i1 _ (Fld.rowsGet hx1) rfl), hP 8 (inc_ok i1 (by omega))] [aN (rec x1.v (szF hx1) v1_1 (w64 (p2 - 1)) (H.2.1 x1 (mem_get hx1)))] (by kernel_rfl) hr
def Z_Ks_b1_3 (p0 : Val) (p2 : Int) (i1 : Nat) (v1_1 : Int) (_x1 : Fld) : List PV :=
  [.un, .un, .int .i64 p2, .bx 0 0, .un, .un, .un, .un, .int .i64 (i1 : Int), .un, .un, .un, .un, .un, .un, .un, .un, .un, .un, .un, .un, .un, .un, .un, .un, .un, .un, .un, .un, .un, .un, .un, .un, .un, .un, .un, .un, .un, .un, .un, .un, .un, .un, .int .i64 (i1 : Int), .bx 0 4, .sl (Fld.rows p0.fields), .int .i64 ((List.length p0.fields) : Int), .bool true, .bool true, .int .i64 v1_1, .bool false, .bool false]
def ZO_Ks_b1_3 (_p0 : Val) (_p2 : Int) (_i1 : Nat) (_v1_1 : Int) (_x1 : Fld) : List (Nat × List PV) :=
  []
theorem x_Ks_b1_3 (p0 : Val) (p2 : Int) (_H : H_Ks_b1 p0 p2) (_rec : Rec_Ks p0) (x1 : Fld) (i1 : Nat) (v1_1 : Int) (_hx1 : p0.fields[i1]? = some x1) (_hi1 : i1 < List.length p0.fields) (hc1 : (decide ((i1 : Int) < ((List.length p0.fields) : Int))) = true) (h0 : (decide (0 ≤ v1_1)) = false) : P_Ks_b1 p0 p2 (E_Ks_b1 p0 p2 i1 v1_1) (.k0 v1_1) := by
  exact ⟨(envF (Z_Ks_b1_3 p0 p2 i1 v1_1 x1)), (zoF (ZO_Ks_b1_3 p0 p2 i1 v1_1 x1)), tells_outVI VOK.nil (x := ((.exit 2), S_Ks_b1_0 p0 p2 v1_1 (envF (Z_Ks_b1_3 p0 p2 i1 v1_1 x1)) (zoF (ZO_Ks_b1_3 p0 p2 i1 v1_1 x1)))) [hP 3 (len_ok (Fld.rows p0.fields) (List.length p0.fields) (Fld.rowsLen p0.fields)), hB 0 hc1, hB 2 h0] [] (by kernel_rfl)⟩
theorem lt_Ks_b1 (p0 : Val) (p2 : Int) (H : H_Ks_b1 p0 p2) (rec : Rec_Ks p0) : ∀ (r1 : List Fld) (i1 : Nat) (v1_1 : Int), List.drop i1 p0.fields = r1 → P_Ks_b1 p0 p2 (E_Ks_b1 p0 p2 i1 v1_1) (l_Ks_b1 p0 p2 r1 i1 v1_1)
  | [], i1, v1_1, hd => by
    have hc1 : (decide ((i1 : Int) < ((List.length p0.fields) : Int))) = false := by have := drop_end hd; simp; omega
    rw [l_Ks_b1]
    exact x_Ks_b1_0 p0 p2 H rec i1 v1_1 hc1
  | x1 :: r1, i1, v1_1, hd => by
    obtain ⟨hx1, hi1, hd'⟩ := drop_get hd
    have hc1 : (decide ((i1 : Int) < ((List.length p0.fields) : Int))) = true := by simp; omega
    rw [l_Ks_b1]
    cases h0 : (decide (0 ≤ v1_1)) with
    | true =>
     cases h1 : (decide (1000 < (ByteArray.size x1.name : Int))) with
     | true =>
      exact x_Ks_b1_1 p0 p2 H rec x1 i1 v1_1 hx1 hi1 hc1 h0 h1
     | false =>
      exact P_Ks_b1_mono p0 p2 (fun r hr => n_Ks_b1_2 p0 p2 H rec x1 i1 v1_1 hx1 hi1 hc1 h0 h1 hr) _ (lt_Ks_b1 p0 p2 H rec r1 (i1 + 1) (s_Ks x1.v v1_1 (w64 (p2 - 1))) hd')
    | false =>
     exact x_Ks_b1_3 p0 p2 H rec x1 i1 v1_1 hx1 hi1 hc1 h0
theorem r_Ks (p0 : Val) (p1 : Int) (p2 : Int) (H : H_Ks p0) (rec : Rec_Ks p0) : Tells G (c_Ks p0 p1 p2) (a_Ks p0 p1 p2) := by
  unfold a_Ks
  rw [s_Ks]
  cases h0 : (decide (p1 ≤ 0)) with
  | true =>
   exact tells_VI (fn := Ir.Ks) rfl VOK.nil [hB 3 h0] [] (by kernel_rfl)
  | false =>
   cases h1 : (decide (p2 ≤ 0)) with
   | true =>
    exact tells_VI (fn := Ir.Ks) rfl VOK.nil [hB 3 h0, hB 2 h1] [] (by kernel_rfl)
   | false =>
    cases h2 : (decide (1000 < (ByteArray.size p0.s : Int))) with
    | true =>
     exact tells_VI (fn := Ir.Ks) rfl VOK.nil [hB 3 h0, hB 2 h1, hB 5 h2] [] (by kernel_rfl)
    | false =>
     have hl3 := lt_Ks_b0 p0 p2 ((give_Ks p0 p1 p2 H).1) rec p0.list 0 (w64 (p1 - 1)) (by simp)
     obtain ⟨z3, zo3, hl3⟩ := hl3
     have hl4 := lt_Ks_b1 p0 p2 ((give_Ks p0 p1 p2 H).2.1) rec p0.fields 0 (l_Ks_b0 p0 p2 p0.list 0 (w64 (p1 - 1))) (by simp)
     cases hr4 : (l_Ks_b1 p0 p2 p0.fields 0 (l_Ks_b0 p0 p2 p0.list 0 (w64 (p1 - 1)))) with
     | k0 y4_0 =>
       rw [hr4] at hl4
       obtain ⟨z4, zo4, hl4⟩ := hl4
       exact tells_VI (fn := Ir.Ks) rfl VOK.nil [hB 3 h0, hB 2 h1, hB 5 h2] [aN hl3, aN hl4] (by kernel_rfl)
     | k1 =>
       rw [hr4] at hl4
       obtain ⟨z4, zo4, hl4⟩ := hl4
       exact tells_VI (fn := Ir.Ks) rfl VOK.nil [hB 3 h0, hB 2 h1, hB 5 h2] [aN hl3, aN hl4] (by kernel_rfl)
theorem i_Ks : ∀ (k : Nat) (p0 : Val), SizeOf.sizeOf p0 < k → ∀ (p1 : Int), ∀ (p2 : Int), H_Ks p0 → Tells G (c_Ks p0 p1 p2) (a_Ks p0 p1 p2)
  | 0, _, h, _, _, _ => absurd h (Nat.not_lt_zero _)
  | k + 1, p0, h, p1, p2, H => r_Ks p0 p1 p2 H (fun q hq p1 p2 hH => i_Ks k q (by omega) p1 p2 hH)
theorem t_Ks (p0 : Val) (p1 : Int) (p2 : Int) (H : H_Ks p0) : Tells G (c_Ks p0 p1 p2) (a_Ks p0 p1 p2) := i_Ks _ p0 (Nat.lt_succ_self _) p1 p2 H
def s_Kl (p0 : Val) (p1 : Int) : Bool :=
  (decide (0 ≤ (s_Ks p0 p1 p1)))
def c_Kl (p0 : Val) (p1 : Int) : En := .call 37 [.agg (Val.cells p0), .int .i64 p1] []
def a_Kl (p0 : Val) (p1 : Int) : Rs := .ret (.bool (s_Kl p0 p1)) []
def H_Kl (p0 : Val) (_p1 : Int) : Prop := (H_Ks p0) ∧ True
theorem t_Kl (p0 : Val) (p1 : Int) (H : H_Kl p0 p1) : Tells G (c_Kl p0 p1) (a_Kl p0 p1) := by
  unfold a_Kl s_Kl
  exact tells_VI (fn := Ir.Kl) rfl VOK.nil [] [aN (t_Ks p0 p1 p1 H.1)] (by kernel_rfl)
def s_Ka (p0 : Val) : Bool :=
  (s_Kl p0 400)
def c_Ka (p0 : Val) : En := .call 9 [.agg (Val.cells p0)] []
def a_Ka (p0 : Val) : Rs := .ret (.bool (s_Ka p0)) []
def H_Ka (p0 : Val) : Prop := (H_Kl p0 400) ∧ True
theorem t_Ka (p0 : Val) (H : H_Ka p0) : Tells G (c_Ka p0) (a_Ka p0) := by
  unfold a_Ka s_Ka
  exact tells_VI (fn := Ir.Ka) rfl VOK.nil [] [aN (t_Kl p0 400 H.1)] (by kernel_rfl)
/-- cmp.isNaN[int] -/
def s_K2 (p0 : Int) : Bool :=
  (!(p0 == p0))
def c_K2 (p0 : Int) : En := .call 61 [.int .i64 p0] []
def a_K2 (p0 : Int) : Rs := .ret (.bool (s_K2 p0)) []
theorem t_K2 (p0 : Int) : Tells G (c_K2 p0) (a_K2 p0) := by
  unfold a_K2 s_K2
  exact tells_VI (fn := Ir.K2) rfl VOK.nil [] [] (by kernel_rfl)
/-- cmp.Compare[int] -/
def s_K0 (p0 : Int) (p1 : Int) : Int :=
  bif (s_K2 p0) then
    bif (s_K2 p1) then
      0
    else
      (-1)
  else
    bif (s_K2 p1) then
      1
    else
      bif (decide (p0 < p1)) then
        (-1)
      else
        bif (decide (p1 < p0)) then
          1
        else
          0
def c_K0 (p0 : Int) (p1 : Int) : En := .call 42 [.int .i64 p0, .int .i64 p1] []
def a_K0 (p0 : Int) (p1 : Int) : Rs := .ret (.int .i64 (s_K0 p0 p1)) []
theorem t_K0 (p0 : Int) (p1 : Int) : Tells G (c_K0 p0 p1) (a_K0 p0 p1) := by
  unfold a_K0 s_K0
  cases h0 : (s_K2 p0) with
  | true =>
   cases h1 : (s_K2 p1) with
   | true =>
    exact tells_VI (fn := Ir.K0) rfl VOK.nil [] [aB (t_K2 p0) h0, aB (t_K2 p1) h1] (by kernel_rfl)
   | false =>
    exact tells_VI (fn := Ir.K0) rfl VOK.nil [] [aB (t_K2 p0) h0, aB (t_K2 p1) h1] (by kernel_rfl)
  | false =>
   cases h1 : (s_K2 p1) with
   | true =>
    exact tells_VI (fn := Ir.K0) rfl VOK.nil [] [aB (t_K2 p0) h0, aB (t_K2 p1) h1] (by kernel_rfl)
   | false =>
    cases h2 : (decide (p0 < p1)) with
    | true =>
     exact tells_VI (fn := Ir.K0) rfl VOK.nil [hB 11 h2] [aB (t_K2 p0) h0, aB (t_K2 p1) h1] (by kernel_rfl)
    | false =>
     cases h3 : (decide (p1 < p0)) with
     | true =>
      exact tells_VI (fn := Ir.K0) rfl VOK.nil [hB 11 h2, hB 2 h3] [aB (t_K2 p0) h0, aB (t_K2 p1) h1] (by kernel_rfl)
     | false =>
      exact tells_VI (fn := Ir.K0) rfl VOK.nil [hB 11 h2, hB 2 h3] [aB (t_K2 p0) h0, aB (t_K2 p1) h1] (by kernel_rfl)
/-- strings.Compare -/
def s_K18 (p0 : ByteArray) (p1 : ByteArray) : Int :=
  (sCmp p0 p1)
def c_K18 (p0 : ByteArray) (p1 : ByteArray) : En := .call 43 [.str p0, .str p1] []
def a_K18 (p0 : ByteArray) (p1 : ByteArray) : Rs := .ret (.int .i64 (s_K18 p0 p1)) []
theorem t_K18 (p0 : ByteArray) (p1 : ByteArray) : Tells G (c_K18 p0 p1) (a_K18 p0 p1) := by
  unfold a_K18 s_K18
  exact tells_VI (fn := Ir.K18) rfl VOK.nil [] [aN (t_cmpstr p0 p1)] (by kernel_rfl)
inductive R_K1_b0 where
  | k0 (q0 : Int)
  | k1 (q0 : Int)
def l_K1_b0 (p0 : List Int) : List Int → Nat → Int → R_K1_b0
  | [], _i0, v0_1 =>
    (.k0 v0_1)
  | x0 :: r0, i0, v0_1 =>
    bif (x0 == v0_1) then
      l_K1_b0 p0 r0 (i0 + 1) v0_1
    else
      (.k1 x0)
def HE_K1_b0 (p0 : List Int) (i0 : Nat) (v0_1 : Int) : List PV :=
  [.un, .un, .un, .int .i64 v0_1, .un, .un, .sl (intRows p0), .int .i64 ((List.length p0) : Int), .int .i64 (i0 : Int), .un, .un, .un, .un, .un, .un, .un, .un, .un]
def HO_K1_b0 (_p0 : List Int) (_i0 : Nat) (_v0_1 : Int) : List Ob :=
  []
def E_K1_b0 (p0 : List Int) (i0 : Nat) (v0_1 : Int) : En := .loop 0 Ir.K1_b0_live Ir.K1_b0 (HE_K1_b0 p0 i0 v0_1) (HO_K1_b0 p0 i0 v0_1)
def S_K1_b0_0 (_p0 : List Int) (q0 : Int) (z : Nat → PV) (_zo : Nat → List PV) : St :=
  ⟨[z 0, z 1, z 2, .int .i64 q0, z 4, z 5, z 6, z 7, z 8, z 9, z 10, z 11, z 12, z 13, z 14, z 15, z 16, z 17], [], 64⟩
def S_K1_b0_1 (_p0 : List Int) (q0 : Int) (z : Nat → PV) (_zo : Nat → List PV) : St :=
  ⟨[z 0, z 1, .int .i64 q0, z 3, z 4, z 5, z 6, z 7, z 8, z 9, z 10, z 11, z 12, z 13, z 14, z 15, z 16, z 17], [], 576⟩
def P_K1_b0 (p0 : List Int) (e : En) : R_K1_b0 → Prop
  | .k0 q0 => ∃ z zo, Tells G e (.st (.exit 0) (S_K1_b0_0 p0 q0 z zo))
  | .k1 q0 => ∃ z zo, Tells G e (.st .ret (S_K1_b0_1 p0 q0 z zo))
theorem P_K1_b0_mono (p0 : List Int) {e e' : En} (h : ∀ r, Tells G e r → Tells G e' r) : ∀ q, P_K1_b0 p0 e q → P_K1_b0 p0 e' q
  | .k0 _, ⟨z, zo, hz⟩ => ⟨z, zo, h _ hz⟩
  | .k1 _, ⟨z, zo, hz⟩ => ⟨z, zo, h _ hz⟩
def H_K1_b0 (p0 : List Int) : Prop := (List.length p0 ≤ 4611686018427387904) ∧ True
def Z_K1_b0_0 (p0 : List Int) (i0 : Nat) (_v0_1 : Int) : List PV :=
  [.un, .un, .un, .un, .un, .un, .sl (intRows p0), .int .i64 ((List.length p0) : Int), .int .i64 (i0 : Int), .bool false]
def ZO_K1_b0_0 (_p0 : List Int) (_i0 : Nat) (_v0_1 : Int) : List (Nat × List PV) :=
  []
theorem x_K1_b0_0 (p0 : List Int) (_H : H_K1_b0 p0) (i0 : Nat) (v0_1 : Int) (hc0 : (decide ((i0 : Int) < ((List.length p0) : Int))) = false) : P_K1_b0 p0 (E_K1_b0 p0 i0 v0_1) (.k0 v0_1) := by
  exact ⟨(envF (Z_K1_b0_0 p0 i0 v0_1)), (zoF (ZO_K1_b0_0 p0 i0 v0_1)), tells_outVI VOK.nil (x := ((.exit 0), S_K1_b0_0 p0 v0_1 (envF (Z_K1_b0_0 p0 i0 v0_1)) (zoF (ZO_K1_b0_0 p0 i0 v0_1)))) [hB 0 hc0] [] (by kernel_rfl)⟩
theorem n_K1_b0_1 (p0 : List Int) (H : H_K1_b0 p0) (x0 : Int) (i0 : Nat) (v0_1 : Int) (hx0 : p0[i0]? = some x0) (hi0 : i0 < List.length p0) (hc0 : (decide ((i0 : Int) < ((List.length p0) : Int))) = true) (h0 : (x0 == v0_1) = true) {r : Rs} (hr : Tells G (E_K1_b0 p0 (i0 + 1) v0_1) r) : Tells G (E_K1_b0 p0 i0 v0_1) r := by
  have hB0 := H.1; have e0 := eq_of_beq h0
  exact tells_nextVI VOK.nil (y := (HE_K1_b0 p0 (i0 + 1) v0_1, HO_K1_b0 p0 (i0 + 1) v0_1)) [hB 0 hc0, hP 0 (ix_ok 1 (intRows p0) i0 _ (intRowsGet hx0) rfl), hP 4 (dec (!(x0 == v0_1)) false (by rw [h0]; rfl)), hP 0 (inc_ok i0 (by omega))] [] (by kernel_rfl) hr
def Z_K1_b0_2 (p0 : List Int) (i0 : Nat) (v0_1 : Int) (x0 : Int) : List PV :=
  [.un, .un, .un, .int .i64 v0_1, .un, .int .i64 x0, .sl (intRows p0), .int .i64 ((List.length p0) : Int), .int .i64 (i0 : Int), .bool true, .rf [.int .i64 x0], .int .i64 x0, .int .i64 x0, .int .i64 v0_1, .bool true, .int .i64 x0]
def ZO_K1_b0_2 (_p0 : List Int) (_i0 : Nat) (_v0_1 : Int) (_x0 : Int) : List (Nat × List PV) :=
  []
theorem x_K1_b0_2 (p0 : List Int) (_H : H_K1_b0 p0) (x0 : Int) (i0 : Nat) (v0_1 : Int) (hx0 : p0[i0]? = some x0) (_hi0 : i0 < List.length p0) (hc0 : (decide ((i0 : Int) < ((List.length p0) : Int))) = true) (h0 : (x0 == v0_1) = false) : P_K1_b0 p0 (E_K1_b0 p0 i0 v0_1) (.k1 x0) := by
  exact ⟨(envF (Z_K1_b0_2 p0 i0 v0_1 x0)), (zoF (ZO_K1_b0_2 p0 i0 v0_1 x0)), tells_outVI VOK.nil (x := (.ret, S_K1_b0_1 p0 x0 (envF (Z_K1_b0_2 p0 i0 v0_1 x0)) (zoF (ZO_K1_b0_2 p0 i0 v0_1 x0)))) [hB 0 hc0, hP 0 (ix_ok 1 (intRows p0) i0 _ (intRowsGet hx0) rfl), hP 4 (dec (!(x0 == v0_1)) true (by rw [h0]; rfl))] [] (by kernel_rfl)⟩
theorem lt_K1_b0 (p0 : List Int) (H : H_K1_b0 p0) : ∀ (r0 : List Int) (i0 : Nat) (v0_1 : Int), List.drop i0 p0 = r0 → P_K1_b0 p0 (E_K1_b0 p0 i0 v0_1) (l_K1_b0 p0 r0 i0 v0_1)
  | [], i0, v0_1, hd => by
    have hc0 : (decide ((i0 : Int) < ((List.length p0) : Int))) = false := by have := drop_end hd; simp; omega
    rw [l_K1_b0]
    exact x_K1_b0_0 p0 H i0 v0_1 hc0
  | x0 :: r0, i0, v0_1, hd => by
    obtain ⟨hx0, hi0, hd'⟩ := drop_get hd
    have hc0 : (decide ((i0 : Int) < ((List.length p0) : Int))) = true := by simp; omega
    rw [l_K1_b0]
    cases h0 : (x0 == v0_1) with
    | true =>
     exact P_K1_b0_mono p0 (fun r hr => n_K1_b0_1 p0 H x0 i0 v0_1 hx0 hi0 hc0 h0 hr) _ (lt_K1_b0 p0 H r0 (i0 + 1) v0_1 hd')
    | false =>
     exact x_K1_b0_2 p0 H x0 i0 v0_1 hx0 hi0 hc0 h0
/-- cmp.Or[int] -/
def s_K1 (p0 : List Int) : Int :=
  (match (l_K1_b0 p0 p0 0 0) with
  | .k0 y0_0 => y0_0
  | .k1 y0_0 => y0_0)
def c_K1 (p0 : List Int) : En := .call 41 [.sl (intRows p0)] []
def a_K1 (p0 : List Int) : Rs := .ret (.int .i64 (s_K1 p0)) []
def H_K1 (p0 : List Int) : Prop := (H_K1_b0 p0) ∧ True
theorem t_K1 (p0 : List Int) (H : H_K1 p0) : Tells G (c_K1 p0) (a_K1 p0) := by
  unfold a_K1 s_K1
  have hl0 := lt_K1_b0 p0 (H.1) p0 0 0 (by simp)
  cases hr0 : (l_K1_b0 p0 p0 0 0) with
  | k0 y0_0 =>
    rw [hr0] at hl0
    obtain ⟨z0, zo0, hl0⟩ := hl0
    exact tells_VI (fn := Ir.K1) rfl VOK.nil [hP 3 (len_ok (intRows p0) (List.length p0) (intRowsLen p0))] [aN hl0] (by kernel_rfl)
  | k1 y0_0 =>
    rw [hr0] at hl0
    obtain ⟨z0, zo0, hl0⟩ := hl0
    exact tells_VI (fn := Ir.K1) rfl VOK.nil [hP 3 (len_ok (intRows p0) (List.length p0) (intRowsLen p0))] [aN hl0] (by kernel_rfl)
end Go.Proofs.Ytedohmdgbilicaa
end

section
/- What the functions of the chapter on values compute (printed by a program). -/
namespace Go.Proofs.Ytedohmdgbilicaa
open Go.Pv
def s_Kt (p0 : Bool) (p1 : Bool) : Int :=
  bif p0 then
    bif p1 then
      (-1)
    else
      (-1)
  else
    bif p1 then
      1
    else
      0
def c_Kt (p0 : Bool) (p1 : Bool) : En := .call 47 [.bool p0, .bool p1] []
def a_Kt (p0 : Bool) (p1 : Bool) : Rs := .ret (.int .i64 (s_Kt p0 p1)) []
theorem t_Kt (p0 : Bool) (p1 : Bool) : Tells G (c_Kt p0 p1) (a_Kt p0 p1) := by
  unfold a_Kt s_Kt
  cases h0 : p0 with
  | true =>
   cases h1 : p1 with
   | true =>
    exact tells_VI (fn := Ir.Kt) rfl VOK.nil [] [] (by kernel_rfl)
   | false =>
    exact tells_VI (fn := Ir.Kt) rfl VOK.nil [] [] (by kernel_rfl)
  | false =>
   cases h1 : p1 with
   | true =>
    exact tells_VI (fn := Ir.Kt) rfl VOK.nil [] [] (by kernel_rfl)
   | false =>
    exact tells_VI (fn := Ir.Kt) rfl VOK.nil [] [] (by kernel_rfl)
mutual
def s_Kc (p0 : Val) (p1 : Val) : Int :=
  bif ((s_Kt (decide (p0.kind < p1.kind)) (decide (p1.kind < p0.kind))) == 0) then
    bif ((s_Kt (decide (p0.n < p1.n)) (decide (p1.n < p0.n))) == 0) then
      bif ((l_Kc_b0 p0 p1 p0.list 0 (s_Kt (sLt p0.s p1.s) (!((sLt p0.s p1.s) || (sEq p0.s p1.s))))) == 0) then
        bif ((l_Kc_b1 p0 p1 p0.fields 0 (s_Kt (decide (((List.length p0.list) : Int) < ((List.length p1.list) : Int))) (decide (((List.length p1.list) : Int) < ((List.length p0.list) : Int))))) == 0) then
          (s_Kt (decide (((List.length p0.fields) : Int) < ((List.length p1.fields) : Int))) (decide (((List.length p1.fields) : Int) < ((List.length p0.fields) : Int))))
        else
          (l_Kc_b1 p0 p1 p0.fields 0 (s_Kt (decide (((List.length p0.list) : Int) < ((List.length p1.list) : Int))) (decide (((List.length p1.list) : Int) < ((List.length p0.list) : Int)))))
      else
        bif ((l_Kc_b1 p0 p1 p0.fields 0 (l_Kc_b0 p0 p1 p0.list 0 (s_Kt (sLt p0.s p1.s) (!((sLt p0.s p1.s) || (sEq p0.s p1.s)))))) == 0) then
          (s_Kt (decide (((List.length p0.fields) : Int) < ((List.length p1.fields) : Int))) (decide (((List.length p1.fields) : Int) < ((List.length p0.fields) : Int))))
        else
          (l_Kc_b1 p0 p1 p0.fields 0 (l_Kc_b0 p0 p1 p0.list 0 (s_Kt (sLt p0.s p1.s) (!((sLt p0.s p1.s) || (sEq p0.s p1.s))))))
    else
      bif ((l_Kc_b0 p0 p1 p0.list 0 (s_Kt (decide (p0.n < p1.n)) (decide (p1.n < p0.n)))) == 0) then
        bif ((l_Kc_b1 p0 p1 p0.fields 0 (s_Kt (decide (((List.length p0.list) : Int) < ((List.length p1.list) : Int))) (decide (((List.length p1.list) : Int) < ((List.length p0.list) : Int))))) == 0) then
          (s_Kt (decide (((List.length p0.fields) : Int) < ((List.length p1.fields) : Int))) (decide (((List.length p1.fields) : Int) < ((List.length p0.fields) : Int))))
        else
          (l_Kc_b1 p0 p1 p0.fields 0 (s_Kt (decide (((List.length p0.list) : Int) < ((List.length p1.list) : Int))) (decide (((List.length p1.list) : Int) < ((List.length p0.list) : Int)))))
      else
        bif ((l_Kc_b1 p0 p1 p0.fields 0 (l_Kc_b0 p0 p1 p0.list 0 (s_Kt (decide (p0.n < p1.n)) (decide (p1.n < p0.n))))) == 0) then
          (s_Kt (decide (((List.length p0.fields) : Int) < ((List.length p1.fields) : Int))) (decide (((List.length p1.fields) : Int) < ((List.length p0.fields) : Int))))
        else
          (l_Kc_b1 p0 p1 p0.fields 0 (l_Kc_b0 p0 p1 p0.list 0 (s_Kt (decide (p0.n < p1.n)) (decide (p1.n < p0.n)))))
  else
    bif ((l_Kc_b0 p0 p1 p0.list 0 (s_Kt (decide (p0.kind < p1.kind)) (decide (p1.kind < p0.kind)))) == 0) then
      bif ((l_Kc_b1 p0 p1 p0.fields 0 (s_Kt (decide (((List.length p0.list) : Int) < ((List.length p1.list) : Int))) (decide (((List.length p1.list) : Int) < ((List.length p0.list) : Int))))) == 0) then
        (s_Kt (decide (((List.length p0.fields) : Int) < ((List.length p1.fields) : Int))) (decide (((List.length p1.fields) : Int) < ((List.length p0.fields) : Int))))
      else
        (l_Kc_b1 p0 p1 p0.fields 0 (s_Kt (decide (((List.length p0.list) : Int) < ((List.length p1.list) : Int))) (decide (((List.length p1.list) : Int) < ((List.length p0.list) : Int)))))
    else
      bif ((l_Kc_b1 p0 p1 p0.fields 0 (l_Kc_b0 p0 p1 p0.list 0 (s_Kt (decide (p0.kind < p1.kind)) (decide (p1.kind < p0.kind))))) == 0) then
        (s_Kt (decide (((List.length p0.fields) : Int) < ((List.length p1.fields) : Int))) (decide (((List.length p1.fields) : Int) < ((List.length p0.fields) : Int))))
      else
        (l_Kc_b1 p0 p1 p0.fields 0 (l_Kc_b0 p0 p1 p0.list 0 (s_Kt (decide (p0.kind < p1.kind)) (decide (p1.kind < p0.kind)))))
termination_by SizeOf.sizeOf p0
decreasing_by all_goals first | exact Val.lt_list _ | exact Val.lt_fields _ | exact lt_head _ _ | exact lt_tail _ _ | exact lt_headv _ _
def l_Kc_b0 (p0 : Val) (p1 : Val) : List Val → Nat → Int → Int
  | [], _i0, v0_1 =>
    v0_1
  | x0 :: r0, i0, v0_1 =>
    bif (decide ((i0 : Int) < ((List.length p1.list) : Int))) then
      bif (v0_1 == 0) then
        l_Kc_b0 p0 p1 r0 (i0 + 1) (s_Kc x0 (List.getD p1.list i0 (Val.mk 0 0 (⟨#[]⟩ : ByteArray) [] [])))
      else
        v0_1
    else
      v0_1
termination_by l => SizeOf.sizeOf l
decreasing_by all_goals first | exact Val.lt_list _ | exact Val.lt_fields _ | exact lt_head _ _ | exact lt_tail _ _ | exact lt_headv _ _
def l_Kc_b1 (p0 : Val) (p1 : Val) : List Fld → Nat → Int → Int
  | [], _i1, v1_1 =>
    v1_1
  | x1 :: r1, i1, v1_1 =>
    bif (decide ((i1 : Int) < ((List.length p1.fields) : Int))) then
      bif (v1_1 == 0) then
        bif ((s_Kt (sLt x1.name (List.getD p1.fields i1 (Fld.mk (⟨#[]⟩ : ByteArray) (Val.mk 0 0 (⟨#[]⟩ : ByteArray) [] []))).name) (!((sLt x1.name (List.getD p1.fields i1 (Fld.mk (⟨#[]⟩ : ByteArray) (Val.mk 0 0 (⟨#[]⟩ : ByteArray) [] []))).name) || (sEq x1.name (List.getD p1.fields i1 (Fld.mk (⟨#[]⟩ : ByteArray) (Val.mk 0 0 (⟨#[]⟩ : ByteArray) [] []))).name)))) == 0) then
          l_Kc_b1 p0 p1 r1 (i1 + 1) (s_Kc x1.v (List.getD p1.fields i1 (Fld.mk (⟨#[]⟩ : ByteArray) (Val.mk 0 0 (⟨#[]⟩ : ByteArray) [] []))).v)
        else
          l_Kc_b1 p0 p1 r1 (i1 + 1) (s_Kt (sLt x1.name (List.getD p1.fields i1 (Fld.mk (⟨#[]⟩ : ByteArray) (Val.mk 0 0 (⟨#[]⟩ : ByteArray) [] []))).name) (!((sLt x1.name (List.getD p1.fields i1 (Fld.mk (⟨#[]⟩ : ByteArray) (Val.mk 0 0 (⟨#[]⟩ : ByteArray) [] []))).name) || (sEq x1.name (List.getD p1.fields i1 (Fld.mk (⟨#[]⟩ : ByteArray) (Val.mk 0 0 (⟨#[]⟩ : ByteArray) [] []))).name))))
      else
        v1_1
    else
      v1_1
termination_by l => SizeOf.sizeOf l
decreasing_by all_goals first | exact Val.lt_list _ | exact Val.lt_fields _ | exact lt_head _ _ | exact lt_tail _ _ | exact lt_headv _ _
end
def HE_Kc_b0 (_p0 : Val) (_p1 : Val) (i0 : Nat) (v0_1 : Int) : List PV :=
  [.un, .un, .bx 0 0, .bx 1 0, .un, .int .i64 v0_1, .int .i64 (i0 : Int), .un, .un, .un, .un, .un, .un, .un, .un, .un, .un, .un, .un, .un, .un, .un, .un, .un, .un, .un, .un, .un, .un, .un, .un, .un, .un, .un, .un, .un, .un, .un, .un, .un, .un, .un, .un, .un, .un, .un, .un, .un, .un, .un, .un, .un, .un, .un, .un, .un, .un, .un, .un, .un, .un, .un, .un, .un, .un, .un, .un, .un, .un, .un, .un, .un, .un, .un, .un, .un, .un, .un, .un, .un, .un, .un, .un, .un, .un, .un, .un, .un, .un, .un, .un, .un, .un, .un, .un, .un, .un, .un, .un, .un, .un, .un, .un, .un, .un, .un, .un, .un, .un, .un, .un, .un, .un, .un, .un, .un, .un, .un, .un, .un, .un, .un, .un, .un, .un, .un, .un, .un, .un, .un, .un, .un, .un, .un, .un, .un, .un, .un, .un, .un, .un, .un, .un, .un, .un, .un, .un, .un, .un, .un, .un, .un, .un, .un, .un, .un, .un, .un, .un, .un, .un, .un, .un, .un, .un, .un, .un, .un, .un]
def HO_Kc_b0 (p0 : Val) (p1 : Val) (_i0 : Nat) (_v0_1 : Int) : List Ob :=
  [⟨5, 0, true, [.int .i64 p0.kind, .int .i64 p0.n, .str p0.s, .sl (Val.rows p0.list), .sl (Fld.rows p0.fields)]⟩, ⟨5, 0, true, [.int .i64 p1.kind, .int .i64 p1.n, .str p1.s, .sl (Val.rows p1.list), .sl (Fld.rows p1.fields)]⟩]
def E_Kc_b0 (p0 : Val) (p1 : Val) (i0 : Nat) (v0_1 : Int) : En := .loop 0 Ir.Kc_b0_live Ir.Kc_b0 (HE_Kc_b0 p0 p1 i0 v0_1) (HO_Kc_b0 p0 p1 i0 v0_1)
def S_Kc_b0_0 (p0 : Val) (p1 : Val) (q0 : Int) (z : Nat → PV) (_zo : Nat → List PV) : St :=
  ⟨[z 0, z 1, .bx 0 0, .bx 1 0, z 4, .int .i64 q0, z 6, z 7, z 8, z 9, z 10, z 11, z 12, z 13, z 14, z 15, z 16, z 17, z 18, z 19, z 20, z 21, z 22, z 23, z 24, z 25, z 26, z 27, z 28, z 29, z 30, z 31, z 32, z 33, z 34, z 35, z 36, z 37, z 38, z 39, z 40, z 41, z 42, z 43, z 44, z 45, z 46, z 47, z 48, z 49, z 50, z 51, z 52, z 53, z 54, z 55, z 56, z 57, z 58, z 59, z 60, z 61, z 62, z 63, z 64, z 65, z 66, z 67, z 68, z 69, z 70, z 71, z 72, z 73, z 74, z 75, z 76, z 77, z 78, z 79, z 80, z 81, z 82, z 83, z 84, z 85, z 86, z 87, z 88, z 89, z 90, z 91, z 92, z 93, z 94, z 95, z 96, z 97, z 98, z 99, z 100, z 101, z 102, z 103, z 104, z 105, z 106, z 107, z 108, z 109, z 110, z 111, z 112, z 113, z 114, z 115, z 116, z 117, z 118, z 119, z 120, z 121, z 122, z 123, z 124, z 125, z 126, z 127, z 128, z 129, z 130, z 131, z 132, z 133, z 134, z 135, z 136, z 137, z 138, z 139, z 140, z 141, z 142, z 143, z 144, z 145, z 146, z 147, z 148, z 149, z 150, z 151, z 152, z 153, z 154, z 155, z 156, z 157, z 158, z 159, z 160, z 161, z 162, z 163, z 164, z 165, z 166, z 167, z 168], [(0, ⟨5, 0, true, [.int .i64 p0.kind, .int .i64 p0.n, .str p0.s, .sl (Val.rows p0.list), .sl (Fld.rows p0.fields)]⟩), (1, ⟨5, 0, true, [.int .i64 p1.kind, .int .i64 p1.n, .str p1.s, .sl (Val.rows p1.list), .sl (Fld.rows p1.fields)]⟩)], 1026⟩
def P_Kc_b0 (p0 : Val) (p1 : Val) (e : En) (q : Int) : Prop := ∃ z zo, Tells G e (.st (.exit 0) (S_Kc_b0_0 p0 p1 q z zo))
theorem P_Kc_b0_mono (p0 : Val) (p1 : Val) {e e' : En} (h : ∀ r, Tells G e r → Tells G e' r) : ∀ q, P_Kc_b0 p0 p1 e q → P_Kc_b0 p0 p1 e' q
  | _, ⟨z, zo, hz⟩ => ⟨z, zo, h _ hz⟩
def HE_Kc_b1 (_p0 : Val) (_p1 : Val) (i1 : Nat) (v1_1 : Int) : List PV :=
  [.un, .un, .bx 0 0, .bx 1 0, .un, .int .i64 v1_1, .un, .int .i64 (i1 : Int), .un, .un, .un, .un, .un, .un, .un, .un, .un, .un, .un, .un, .un, .un, .un, .un, .un, .un, .un, .un, .un, .un, .un, .un, .un, .un, .un, .un, .un, .un, .un, .un, .un, .un, .un, .un, .un, .un, .un, .un, .un, .un, .un, .un, .un, .un, .un, .un, .un, .un, .un, .un, .un, .un, .un, .un, .un, .un, .un, .un, .un, .un, .un, .un, .un, .un, .un, .un, .un, .un, .un, .un, .un, .un, .un, .un, .un, .un, .un, .un, .un, .un, .un, .un, .un, .un, .un, .un, .un, .un, .un, .un, .un, .un, .un, .un, .un, .un, .un, .un, .un, .un, .un, .un, .un, .un, .un, .un, .un, .un, .un, .un, .un, .un, .un, .un, .un, .un, .un, .un, .un, .un, .un, .un, .un, .un, .un, .un, .un, .un, .un, .un, .un, .un, .un, .un, .un, .un, .un, .un, .un, .un, .un, .un, .un, .un, .un, .un, .un, .un, .un, .un, .un, .un, .un, .un, .un, .un, .un, .un, .un]
def HO_Kc_b1 (p0 : Val) (p1 : Val) (_i1 : Nat) (_v1_1 : Int) : List Ob :=
  [⟨5, 0, true, [.int .i64 p0.kind, .int .i64 p0.n, .str p0.s, .sl (Val.rows p0.list), .sl (Fld.rows p0.fields)]⟩, ⟨5, 0, true, [.int .i64 p1.kind, .int .i64 p1.n, .str p1.s, .sl (Val.rows p1.list), .sl (Fld.rows p1.fields)]⟩]
def E_Kc_b1 (p0 : Val) (p1 : Val) (i1 : Nat) (v1_1 : Int) : En := .loop 0 Ir.Kc_b1_live Ir.Kc_b1 (HE_Kc_b1 p0 p1 i1 v1_1) (HO_Kc_b1 p0 p1 i1 v1_1)
def S_Kc_b1_0 (p0 : Val) (p1 : Val) (q0 : Int) (z : Nat → PV) (_zo : Nat → List PV) : St :=
  ⟨[z 0, z 1, .bx 0 0, .bx 1 0, z 4, .int .i64 q0, z 6, z 7, z 8, z 9, z 10, z 11, z 12, z 13, z 14, z 15, z 16, z 17, z 18, z 19, z 20, z 21, z 22, z 23, z 24, z 25, z 26, z 27, z 28, z 29, z 30, z 31, z 32, z 33, z 34, z 35, z 36, z 37, z 38, z 39, z 40, z 41, z 42, z 43, z 44, z 45, z 46, z 47, z 48, z 49, z 50, z 51, z 52, z 53, z 54, z 55, z 56, z 57, z 58, z 59, z 60, z 61, z 62, z 63, z 64, z 65, z 66, z 67, z 68, z 69, z 70, z 71, z 72, z 73, z 74, z 75, z 76, z 77, z 78, z 79, z 80, z 81, z 82, z 83, z 84, z 85, z 86, z 87, z 88, z 89, z 90, z 91, z 92, z 93, z 94, z 95, z 96, z 97, z 98, z 99, z 100, z 101, z 102, z 103, z 104, z 105, z 106, z 107, z 108, z 109, z 110, z 111, z 112, z 113, z 114, z 115, z 116, z 117, z 118, z 119, z 120, z 121, z 122, z 123, z 124, z 125, z 126, z 127, z 128, z 129, z 130, z 131, z 132, z 133, z 134, z 135, z 136, z 137, z 138, z 139, z 140, z 141, z 142, z 143, z 144, z 145, z 146, z 147, z 148, z 149, z 150, z 151, z 152, z 153, z 154, z 155, z 156, z 157, z 158, z 159, z 160, z 161, z 162, z 163, z 164, z 165, z 166, z 167, z 168], [(0, ⟨5, 0, true, [.int .i64 p0.kind, .int .i64 p0.n, .str p0.s, .sl (Val.rows p0.list), .sl (Fld.rows p0.fields)]⟩), (1, ⟨5, 0, true, [.int .i64 p1.kind, .int .i64 p1.n, .str p1.s, .sl (Val.rows p1.list), .sl (Fld.rows p1.fields)]⟩)], 1026⟩
def P_Kc_b1 (p0 : Val) (p1 : Val) (e : En) (q : Int) : Prop := ∃ z zo, Tells G e (.st (.exit 2) (S_Kc_b1_0 p0 p1 q z zo))
theorem P_Kc_b1_mono (p0 : Val) (p1 : Val) {e e' : En} (h : ∀ r, Tells G e r → Tells G e' r) : ∀ q, P_Kc_b1 p0 p1 e q → P_Kc_b1 p0 p1 e' q
  | _, ⟨z, zo, hz⟩ => ⟨z, zo, h _ hz⟩
def c_Kc (p0 : Val) (p1 : Val) : En := .call 18 [.agg (Val.cells p0), .agg (Val.cells p1)] []
def a_Kc (p0 : Val) (p1 : Val) : Rs := .ret (.int .i64 (s_Kc p0 p1)) []
abbrev H_Kc (p0 : Val) : Prop := Val.Sm 4611686018427387904 p0
def Rec_Kc (p0 : Val) : Prop := ∀ (q : Val), SizeOf.sizeOf q < SizeOf.sizeOf p0 → ∀ (p1 : Val), H_Kc q → Tells G (c_Kc q p1) (a_Kc q p1)
def H_Kc_b0 (p0 : Val) (_p1 : Val) : Prop := (List.length p0.list ≤ 4611686018427387904) ∧ (∀ x0 ∈ p0.list, H_Kc x0) ∧ True
def H_Kc_b1 (p0 : Val) (_p1 : Val) : Prop := (List.length p0.fields ≤ 4611686018427387904) ∧ (∀ x1 ∈ p0.fields, H_Kc x1.v) ∧ True
theorem give_Kc (p0 : Val) (p1 : Val) (H : H_Kc p0) : (H_Kc_b0 p0 p1) ∧ (H_Kc_b1 p0 p1) ∧ True := by
  obtain ⟨h1, h2, h3, h4⟩ := H.all
  simp only [H_Kc_b0, H_Kc_b1]
  exact ⟨⟨h1, h3, trivial⟩, ⟨h2, h4, trivial⟩, trivial⟩
def Z_Kc_b0_0 (p0 : Val) (_p1 : Val) (i0 : Nat) (_v0_1 : Int) : List PV :=
  [.un, .un, .un, .un, .un, .un, .int .i64 (i0 : Int), .un, .un, .un, .un, .un, .un, .un, .un, .un, .un, .un, .un, .un, .un, .un, .un, .un, .un, .un, .un, .un, .un, .un, .un, .un, .un, .un, .un, .un, .un, .un, .un, .un, .un, .un, .un, .un, .un, .int .i64 (i0 : Int), .bx 0 3, .sl (Val.rows p0.list), .int .i64 ((List.length p0.list) : Int), .bool false, .bool false, .tup [], .tup [], .tup [], .tup [], .tup [], .bool false, .bool false, .tup [], .tup [], .bool false]
def ZO_Kc_b0_0 (_p0 : Val) (_p1 : Val) (_i0 : Nat) (_v0_1 : Int) : List (Nat × List PV) :=
  []
theorem x_Kc_b0_0 (p0 : Val) (p1 : Val) (_H : H_Kc_b0 p0 p1) (_rec : Rec_Kc p0) (i0 : Nat) (v0_1 : Int) (hc0 : (decide ((i0 : Int) < ((List.length p0.list) : Int))) = false) : P_Kc_b0 p0 p1 (E_Kc_b0 p0 p1 i0 v0_1) v0_1 := by
  exact ⟨(envF (Z_Kc_b0_0 p0 p1 i0 v0_1)), (zoF (ZO_Kc_b0_0 p0 p1 i0 v0_1)), tells_outVI VOK.nil (x := ((.exit 0), S_Kc_b0_0 p0 p1 v0_1 (envF (Z_Kc_b0_0 p0 p1 i0 v0_1)) (zoF (ZO_Kc_b0_0 p0 p1 i0 v0_1)))) [hP 3 (len_ok (Val.rows p0.list) (List.length p0.list) (Val.rowsLen p0.list)), hB 0 hc0] [] (by kernel_rfl)⟩
theorem n_Kc_b0_1 (p0 : Val) (p1 : Val) (H : H_Kc_b0 p0 p1) (rec : Rec_Kc p0) (x0 : Val) (i0 : Nat) (v0_1 : Int) (hx0 : p0.list[i0]? = some x0) (hi0 : i0 < List.length p0.list) (hc0 : (decide ((i0 : Int) < ((List.length p0.list) : Int))) = true) (h0 : (decide ((i0 : Int) < ((List.length p1.list) : Int))) = true) (h1 : (v0_1 == 0) = true) {r : Rs} (hr : Tells G (E_Kc_b0 p0 p1 (i0 + 1) (s_Kc x0 (List.getD p1.list i0 (Val.mk 0 0 (⟨#[]⟩ : ByteArray) [] [])))) r) : Tells G (E_Kc_b0 p0 p1 i0 v0_1) r := by
  have hB0 := H.1; have e0 := of_decide_eq_true h0; have e1 := eq_of_beq h1
  exact tells_nextVI VOK.nil (y := (HE_Kc_b0 p0 p1 (i0 + 1) (s_Kc x0 (List.getD p1.list i0 (Val.mk 0 0 (⟨#[]⟩ : ByteArray) [] []))), HO_Kc_b0 p0 p1 (i0 + 1) (s_Kc x0 (List.getD p1.list i0 (Val.mk 0 0 (⟨#[]⟩ : ByteArray) [] []))))) [hP 3 (len_ok (Val.rows p0.list) (List.length p0.list) (Val.rowsLen p0.list)), hB 0 hc0, hP 4 (len_ok (Val.rows p1.list) (List.length p1.list) (Val.rowsLen p1.list)), hB 0 h0, hB 3 h1, hP 4 (ix_ok 5 (Val.rows p0.list) i0 _ (Val.rowsGet hx0) rfl), hP 4 (ixI_ok 5 (Val.rows p1.list) (i0 : Int) _ (by omega) (Val.rowsGet (getD_ok p1.list (Int.toNat (i0 : Int)) (Val.mk 0 0 (⟨#[]⟩ : ByteArray) [] []) (by omega))) rfl), hP 4 (inc_ok i0 (by omega))] [aN (rec x0 (szL hx0) (List.getD p1.list i0 (Val.mk 0 0 (⟨#[]⟩ : ByteArray) [] [])) (H.2.1 x0 (mem_get hx0)))] (by kernel_rfl) hr
def Z_Kc_b0_2 (p0 : Val) (p1 : Val) (i0 : Nat) (v0_1 : Int) (_x0 : Val) : List PV :=
  [.un, .un, .un, .un, .un, .un, .int .i64 (i0 : Int), .un, .un, .un, .un, .un, .un, .un, .un, .un, .un, .un, .un, .un, .un, .un, .un, .un, .un, .un, .un, .un, .un, .un, .un, .un, .un, .un, .un, .un, .un, .un, .un, .un, .un, .un, .un, .un, .un, .int .i64 (i0 : Int), .bx 0 3, .sl (Val.rows p0.list), .int .i64 ((List.length p0.list) : Int), .bool true, .bool true, .int .i64 (i0 : Int), .bx 1 3, .sl (Val.rows p1.list), .int .i64 ((List.length p1.list) : Int), .bool true, .bool true, .bool true, .int .i64 v0_1, .bool false, .bool false]
def ZO_Kc_b0_2 (_p0 : Val) (_p1 : Val) (_i0 : Nat) (_v0_1 : Int) (_x0 : Val) : List (Nat × List PV) :=
  []
theorem x_Kc_b0_2 (p0 : Val) (p1 : Val) (_H : H_Kc_b0 p0 p1) (_rec : Rec_Kc p0) (x0 : Val) (i0 : Nat) (v0_1 : Int) (_hx0 : p0.list[i0]? = some x0) (_hi0 : i0 < List.length p0.list) (hc0 : (decide ((i0 : Int) < ((List.length p0.list) : Int))) = true) (h0 : (decide ((i0 : Int) < ((List.length p1.list) : Int))) = true) (h1 : (v0_1 == 0) = false) : P_Kc_b0 p0 p1 (E_Kc_b0 p0 p1 i0 v0_1) v0_1 := by
  exact ⟨(envF (Z_Kc_b0_2 p0 p1 i0 v0_1 x0)), (zoF (ZO_Kc_b0_2 p0 p1 i0 v0_1 x0)), tells_outVI VOK.nil (x := ((.exit 0), S_Kc_b0_0 p0 p1 v0_1 (envF (Z_Kc_b0_2 p0 p1 i0 v0_1 x0)) (zoF (ZO_Kc_b0_2 p0 p1 i0 v0_1 x0)))) [hP 3 (len_ok (Val.rows p0.list) (List.length p0.list) (Val.rowsLen p0.list)), hB 0 hc0, hP 4 (len_ok (Val.rows p1.list) (List.length p1.list) (Val.rowsLen p1.list)), hB 0 h0, hB 3 h1] [] (by kernel_rfl)⟩
def Z_Kc_b0_3 (p0 : Val) (p1 : Val) (i0 : Nat) (_v0_1 : Int) (_x0 : Val) : List PV :=
  [.un, .un, .un, .un, .un, .un, .int .i64 (i0 : Int), .un, .un, .un, .un, .un, .un, .un, .un, .un, .un, .un, .un, .un, .un, .un, .un, .un, .un, .un, .un, .un, .un, .un, .un, .un, .un, .un, .un, .un, .un, .un, .un, .un, .un, .un, .un, .un, .un, .int .i64 (i0 : Int), .bx 0 3, .sl (Val.rows p0.list), .int .i64 ((List.length p0.list) : Int), .bool true, .bool true, .int .i64 (i0 : Int), .bx 1 3, .sl (Val.rows p1.list), .int .i64 ((List.length p1.list) : Int), .bool false, .bool false, .bool false, .tup [], .tup [], .bool false]
def ZO_Kc_b0_3 (_p0 : Val) (_p1 : Val) (_i0 : Nat) (_v0_1 : Int) (_x0 : Val) : List (Nat × List PV) :=
  []
theorem x_Kc_b0_3 (p0 : Val) (p1 : Val) (_H : H_Kc_b0 p0 p1) (_rec : Rec_Kc p0) (x0 : Val) (i0 : Nat) (v0_1 : Int) (_hx0 : p0.list[i0]? = some x0) (_hi0 : i0 < List.length p0.list) (hc0 : (decide ((i0 : Int) < ((List.length p0.list) : Int))) = true) (h0 : (decide ((i0 : Int) < ((List.length p1.list) : Int))) = false) : P_Kc_b0 p0 p1 (E_Kc_b0 p0 p1 i0 v0_1) v0_1 := by
  exact ⟨(envF (Z_Kc_b0_3 p0 p1 i0 v0_1 x0)), (zoF (ZO_Kc_b0_3 p0 p1 i0 v0_1 x0)), tells_outVI VOK.nil (x := ((.exit 0), S_Kc_b0_0 p0 p1 v0_1 (envF (Z_Kc_b0_3 p0 p1 i0 v0_1 x0)) (zoF (ZO_Kc_b0_3 p0 p1 i0 v0_1 x0)))) [hP 3 (len_ok (Val.rows p0.list) (List.length p0.list) (Val.rowsLen p0.list)), hB 0 hc0, hP 4 (len_ok (Val.rows p1.list) (List.length p1.list) (Val.rowsLen p1.list)), hB 0 h0] [] (by kernel_rfl)⟩
theorem lt_Kc_b0 (p0 : Val) (p1 : Val) (H : H_Kc_b0 p0 p1) (rec : Rec_Kc p0) : ∀ (r0 : List Val) (i0 : Nat) (v0_1 : Int), List.drop i0 p0.list = r0 → P_Kc_b0 p0 p1 (E_Kc_b0 p0 p1 i0 v0_1) (l_Kc_b0 p0 p1 r0 i0 v0_1)
  | [], i0, v0_1, hd => by
    have hc0 : (decide ((i0 : Int) < ((List.length p0.list) : Int))) = false := by have := drop_end hd; simp; omega
    rw [l_Kc_b0]
    exact x_Kc_b0_0 p0 p1 H rec i0 v0_1 hc0
  | x0 :: r0, i0, v0_1, hd => by
    obtain ⟨hx0, hi0, hd'⟩ := drop_get hd
    have hc0 : (decide ((i0 : Int) < ((List.length p0.list) : Int))) = true := by simp; omega
    rw [l_Kc_b0]
    cases h0 : (decide ((i0 : Int) < ((List.length p1.list) : Int))) with
    | true =>
     cases h1 : (v0_1 == 0) with
     | true =>
      exact P_Kc_b0_mono p0 p1 (fun r hr => n_Kc_b0_1 p0 p1 H rec x0 i0 v0_1 hx0 hi0 hc0 h0 h1 hr) _ (lt_Kc_b0 p0 p1 H rec r0 (i0 + 1) (s_Kc x0 (List.getD p1.list i0 (Val.mk 0 0 (⟨#[]⟩ : ByteArray) [] []))) hd')
     | false =>
      exact x_Kc_b0_2 p0 p1 H rec x0 i0 v0_1 hx0 hi0 hc0 h0 h1
    | false =>
     exact x_Kc_b0_3 p0 p1 H rec x0 i0 v0_1 hx0 hi0 hc0 h0
def Z_Kc_b1_0 (p0 : Val) (_p1 : Val) (i1 : Nat) (_v1_1 : Int) : List PV :=
  [.un, .un, .un, .un, .un, .un, .un, .int .i64 (i1 : Int), .un, .un, .un, .un, .un, .un, .un, .un, .un, .un, .un, .un, .un, .un, .un, .un, .un, .un, .un, .un, .un, .un, .un, .un, .un, .un, .un, .un, .un, .un, .un, .un, .un, .un, .un, .un, .un, .un, .un, .un, .un, .un, .un, .un, .un, .un, .un, .un, .un, .un, .un, .un, .un, .un, .un, .un, .un, .un, .un, .un, .un, .un, .un, .un, .un, .un, .un, .un, .un, .un, .un, .un, .un, .un, .un, .un, .un, .un, .un, .un, .un, .un, .un, .int .i64 (i1 : Int), .bx 0 4, .sl (Fld.rows p0.fields), .int .i64 ((List.length p0.fields) : Int), .bool false, .bool false, .tup [], .tup [], .tup [], .tup [], .tup [], .bool false, .bool false, .tup [], .tup [], .bool false]
def ZO_Kc_b1_0 (_p0 : Val) (_p1 : Val) (_i1 : Nat) (_v1_1 : Int) : List (Nat × List PV) :=
  []
theorem x_Kc_b1_0 (p0 : Val) (p1 : Val) (_H : H_Kc_b1 p0 p1) (_rec : Rec_Kc p0) (i1 : Nat) (v1_1 : Int) (hc1 : (decide ((i1 : Int) < ((List.length p0.fields) : Int))) = false) : P_Kc_b1 p0 p1 (E_Kc_b1 p0 p1 i1 v1_1) v1_1 := by
  exact ⟨(envF (Z_Kc_b1_0 p0 p1 i1 v1_1)), (zoF (ZO_Kc_b1_0 p0 p1 i1 v1_1)), tells_outVI VOK.nil (x := ((.exit 2), S_Kc_b1_0 p0 p1 v1_1 (envF (Z_Kc_b1_0 p0 p1 i1 v1_1)) (zoF (ZO_Kc_b1_0 p0 p1 i1 v1_1)))) [hP 3 (len_ok (Fld.rows p0.fields) (List.length p0.fields) (Fld.rowsLen p0.fields)), hB 0 hc1] [] (by kernel_rfl)⟩
theorem n_Kc_b1_1 (p0 : Val) (p1 : Val) (H : H_Kc_b1 p0 p1) (rec : Rec_Kc p0) (x1 : Fld) (i1 : Nat) (v1_1 : Int) (hx1 : p0.fields[i1]? = some x1) (hi1 : i1 < List.length p0.fields) (hc1 : (decide ((i1 : Int) < ((List.length p0.fields) : Int))) = true) (h0 : (decide ((i1 : Int) < ((List.length p1.fields) : Int))) = true) (h1 : (v1_1 == 0) = true) (h2 : ((s_Kt (sLt x1.name (List.getD p1.fields i1 (Fld.mk (⟨#[]⟩ : ByteArray) (Val.mk 0 0 (⟨#[]⟩ : ByteArray) [] []))).name) (!((sLt x1.name (List.getD p1.fields i1 (Fld.mk (⟨#[]⟩ : ByteArray) (Val.mk 0 0 (⟨#[]⟩ : ByteArray) [] []))).name) || (sEq x1.name (List.getD p1.fields i1 (Fld.mk (⟨#[]⟩ : ByteArray) (Val.mk 0 0 (⟨#[]⟩ : ByteArray) [] []))).name)))) == 0) = true) {r : Rs} (hr : Tells G (E_Kc_b1 p0 p1 (i1 + 1) (s_Kc x1.v (List.getD p1.fields i1 (Fld.mk (⟨#[]⟩ : ByteArray) (Val.mk 0 0 (⟨#[]⟩ : ByteArray) [] []))).v)) r) : Tells G (E_Kc_b1 p0 p1 i1 v1_1) r := by
  have hB0 := H.1; have e0 := of_decide_eq_true h0; have e1 := eq_of_beq h1; have e2 := eq_of_beq h2
  exact tells_nextVI VOK.nil (y := (HE_Kc_b1 p0 p1 (i1 + 1) (s_Kc x1.v (List.getD p1.fields i1 (Fld.mk (⟨#[]⟩ : ByteArray) (Val.mk 0 0 (⟨#[]⟩ : ByteArray) [] []))).v), HO_Kc_b1 p0 p1 (i1 + 1) (s_Kc x1.v (List.getD p1.fields i1 (Fld.mk (⟨#[]⟩ : ByteArray) (Val.mk 0 0 (⟨#[]⟩ : ByteArray) [] []))).v))) [hP 3 (len_ok (Fld.rows p0.fields) (List.length p0.fields) (Fld.rowsLen p0.fields)), hB 0 hc1, hP 4 (len_ok (Fld.rows p1.fields) (List.length p1.fields) (Fld.rowsLen p1.fields)), hB 0 h0, hB 3 h1, hP 4 (ix_ok 6 (Fld.rows p0.fields) i1 _ (Fld.rowsGet hx1) rfl), hP 5 (ixI_ok 6 (Fld.rows p1.fields) (i1 : Int) _ (by omega) (Fld.rowsGet (getD_ok p1.fields (Int.toNat (i1 : Int)) (Fld.mk (⟨#[]⟩ : ByteArray) (Val.mk 0 0 (⟨#[]⟩ : ByteArray) [] [])) (by omega))) rfl), hP 6 (ix_ok 6 (Fld.rows p0.fields) i1 _ (Fld.rowsGet hx1) rfl), hP 5 (ixI_ok 6 (Fld.rows p1.fields) (i1 : Int) _ (by omega) (Fld.rowsGet (getD_ok p1.fields (Int.toNat (i1 : Int)) (Fld.mk (⟨#[]⟩ : ByteArray) (Val.mk 0 0 (⟨#[]⟩ : ByteArray) [] [])) (by omega))) rfl), hB 6 h2, hP 3 (ix_ok 6 (Fld.rows p0.fields) i1 _ (Fld.rowsGet hx1) rfl), hP 5 (ixI_ok 6 (Fld.rows p1.fields) (i1 : Int) _ (by omega) (Fld.rowsGet (getD_ok p1.fields (Int.toNat (i1 : Int)) (Fld.mk (⟨#[]⟩ : ByteArray) (Val.mk 0 0 (⟨#[]⟩ : ByteArray) [] [])) (by omega))) rfl), hP 5 (inc_ok i1 (by omega))] [aN (t_Kt (sLt x1.name (List.getD p1.fields i1 (Fld.mk (⟨#[]⟩ : ByteArray) (Val.mk 0 0 (⟨#[]⟩ : ByteArray) [] []))).name) (!((sLt x1.name (List.getD p1.fields i1 (Fld.mk (⟨#[]⟩ : ByteArray) (Val.mk 0 0 (⟨#[]⟩ : ByteArray) [] []))).name) || (sEq x1.name (List.getD p1.fields i1 (Fld.mk (⟨#[]⟩ : ByteArray) (Val.mk 0 0 (⟨#[]⟩ : ByteArray) [] []))).name)))), aN (rec x1.v (szF hx1) (List.getD p1.fields i1 (Fld.mk (⟨#[]⟩ : ByteArray) (Val.mk 0 0 (⟨#[]⟩ : ByteArray) [] []))).v (H.2.1 x1 (mem_get hx1)))] (by kernel_rfl) hr
theorem n_Kc_b1_2 (p0 : Val) (p1 : Val) (H : H_Kc_b1 p0 p1) (_rec : Rec_Kc p0) (x1 : Fld) (i1 : Nat) (v1_1 : Int) (hx1 : p0.fields[i1]? = some x1) (hi1 : i1 < List.length p0.fields) (hc1 : (decide ((i1 : Int) < ((List.length p0.fields) : Int))) = true) (h0 : (decide ((i1 : Int) < ((List.length p1.fields) : Int))) = true) (h1 : (v1_1 == 0) = true) (h2 : ((s_Kt (sLt x1.name (List.getD p1.fields i1 (Fld.mk (⟨#[]⟩ : ByteArray) (Val.mk 0 0 (⟨#[]⟩ : ByteArray) [] []))).name) (!((sLt x1.name (List.getD p1.fields i1 (Fld.mk (⟨#[]⟩ : ByteArray) (Val.mk 0 0 (⟨#[]⟩ : ByteArray) [] []))).name) || (sEq x1.name (List.getD p1.fields i1 (Fld.mk (⟨#[]⟩ : ByteArray) (Val.mk 0 0 (⟨#[]⟩ : ByteArray) [] []))).name)))) == 0) = false) {r : Rs} (hr : Tells G (E_Kc_b1 p0 p1 (i1 + 1) (s_Kt (sLt x1.name (List.getD p1.fields i1 (Fld.mk (⟨#[]⟩ : ByteArray) (Val.mk 0 0 (⟨#[]⟩ : ByteArray) [] []))).name) (!((sLt x1.name (List.getD p1.fields i1 (Fld.mk (⟨#[]⟩ : ByteArray) (Val.mk 0 0 (⟨#[]⟩ : ByteArray) [] []))).name) || (sEq x1.name (List.getD p1.fields i1 (Fld.mk (⟨#[]⟩ : ByteArray) (Val.mk 0 0 (⟨#[]⟩ : ByteArray) [] []))).name))))) r) : Tells G (E_Kc_b1 p0 p1 i1 v1_1) r := by
  have hB0 := H.1; have e0 := of_decide_eq_true h0; have e1 := eq_of_beq h1; have e2 := beq_eq_false_iff_ne.1 h2
  exact tells_nextVI VOK.nil (y := (HE_Kc_b1 p0 p1 (i1 + 1) (s_Kt (sLt x1.name (List.getD p1.fields i1 (Fld.mk (⟨#[]⟩ : ByteArray) (Val.mk 0 0 (⟨#[]⟩ : ByteArray) [] []))).name) (!((sLt x1.name (List.getD p1.fields i1 (Fld.mk (⟨#[]⟩ : ByteArray) (Val.mk 0 0 (⟨#[]⟩ : ByteArray) [] []))).name) || (sEq x1.name (List.getD p1.fields i1 (Fld.mk (⟨#[]⟩ : ByteArray) (Val.mk 0 0 (⟨#[]⟩ : ByteArray) [] []))).name)))), HO_Kc_b1 p0 p1 (i1 + 1) (s_Kt (sLt x1.name (List.getD p1.fields i1 (Fld.mk (⟨#[]⟩ : ByteArray) (Val.mk 0 0 (⟨#[]⟩ : ByteArray) [] []))).name) (!((sLt x1.name (List.getD p1.fields i1 (Fld.mk (⟨#[]⟩ : ByteArray) (Val.mk 0 0 (⟨#[]⟩ : ByteArray) [] []))).name) || (sEq x1.name (List.getD p1.fields i1 (Fld.mk (⟨#[]⟩ : ByteArray) (Val.mk 0 0 (⟨#[]⟩ : ByteArray) [] []))).name)))))) [hP 3 (len_ok (Fld.rows p0.fields) (List.length p0.fields) (Fld.rowsLen p0.fields)), hB 0 hc1, hP 4 (len_ok (Fld.rows p1.fields) (List.length p1.fields) (Fld.rowsLen p1.fields)), hB 0 h0, hB 3 h1, hP 4 (ix_ok 6 (Fld.rows p0.fields) i1 _ (Fld.rowsGet hx1) rfl), hP 5 (ixI_ok 6 (Fld.rows p1.fields) (i1 : Int) _ (by omega) (Fld.rowsGet (getD_ok p1.fields (Int.toNat (i1 : Int)) (Fld.mk (⟨#[]⟩ : ByteArray) (Val.mk 0 0 (⟨#[]⟩ : ByteArray) [] [])) (by omega))) rfl), hP 6 (ix_ok 6 (Fld.rows p0.fields) i1 _ (Fld.rowsGet hx1) rfl), hP 5 (ixI_ok 6 (Fld.rows p1.fields) (i1 : Int) _ (by omega) (Fld.rowsGet (getD_ok p1.fields (Int.toNat (i1 : Int)) (Fld.mk (⟨#[]⟩ : ByteArray) (Val.mk 0 0 (⟨#[]⟩ : ByteArray) [] [])) (by omega))) rfl), hB 6 h2, hP 1 (inc_ok i1 (by omega))] [aN (t_Kt (sLt x1.name (List.getD p1.fields i1 (Fld.mk (⟨#[]⟩ : ByteArray) (Val.mk 0 0 (⟨#[]⟩ : ByteArray) [] []))).name) (!((sLt x1.name (List.getD p1.fields i1 (Fld.mk (⟨#[]⟩ : ByteArray) (Val.mk 0 0 (⟨#[]⟩ : ByteArray) [] []))).name) || (sEq x1.name (List.getD p1.fields i1 (Fld.mk (⟨#[]⟩ : ByteArray) (Val.mk 0 0 (⟨#[]⟩ : ByteArray) [] []))).name))))] (by kernel_rfl) hr
def Z_Kc_b1_3 (p0 : Val) (p1 : Val) (i1 : Nat) (v1_1 : Int) (_x1 : Fld) : List PV :=
  [.un, .un, .un, .un, .un, .un, .un, .int .i64 (i1 : Int), .un, .un, .un, .un, .un, .un, .un, .un, .un, .un, .un, .un, .un, .un, .un, .un, .un, .un, .un, .un, .un, .un, .un, .un, .un, .un, .un, .un, .un, .un, .un, .un, .un, .un, .un, .un, .un, .un, .un, .un, .un, .un, .un, .un, .un, .un, .un, .un, .un, .un, .un, .un, .un, .un, .un, .un, .un, .un, .un, .un, .un, .un, .un, .un, .un, .un, .un, .un, .un, .un, .un, .un, .un, .un, .un, .un, .un, .un, .un, .un, .un, .un, .un, .int .i64 (i1 : Int), .bx 0 4, .sl (Fld.rows p0.fields), .int .i64 ((List.length p0.fields) : Int), .bool true, .bool true, .int .i64 (i1 : Int), .bx 1 4, .sl (Fld.rows p1.fields), .int .i64 ((List.length p1.fields) : Int), .bool true, .bool true, .bool true, .int .i64 v1_1, .bool false, .bool false]
def ZO_Kc_b1_3 (_p0 : Val) (_p1 : Val) (_i1 : Nat) (_v1_1 : Int) (_x1 : Fld) : List (Nat × List PV) :=
  []
theorem x_Kc_b1_3 (p0 : Val) (p1 : Val) (_H : H_Kc_b1 p0 p1) (_rec : Rec_Kc p0) (x1 : Fld) (i1 : Nat) (v1_1 : Int) (_hx1 : p0.fields[i1]? = some x1) (_hi1 : i1 < List.length p0.fields) (hc1 : (decide ((i1 : Int) < ((List.length p0.fields) : Int))) = true) (h0 : (decide ((i1 : Int) < ((List.length p1.fields) : Int))) = true) (h1 : (v1_1 == 0) = false) : P_Kc_b1 p0 p1 (E_Kc_b1 p0 p1 i1 v1_1) v1_1 := by
  exact ⟨(envF (Z_Kc_b1_3 p0 p1 i1 v1_1 x1)), (zoF (ZO_Kc_b1_3 p0 p1 i1 v1_1 x1)), tells_outVI VOK.nil (x := ((.exit 2), S_Kc_b1_0 p0 p1 v1_1 (envF (Z_Kc_b1_3 p0 p1 i1 v1_1 x1)) (zoF (ZO_Kc_b1_3 p0 p1 i1 v1_1 x1)))) [hP 3 (len_ok (Fld.rows p0.fields) (List.length p0.fields) (Fld.rowsLen p0.fields)), hB 0 hc1, hP 4 (len_ok (Fld.rows p1.fields) (List.length p1.fields) (Fld.rowsLen p1.fields)), hB 0 h0, hB 3 h1] [] (by kernel_rfl)⟩
def Z_Kc_b1_4 (p0 : Val) (p1 : Val) (i1 : Nat) (_v1_1 : Int) (_x1 : Fld) : List PV :=
  [.un, .un, .un, .un, .un, .un, .un, .int .i64 (i1 : Int), .un, .un, .un, .un, .un, .un, .un, .un, .un, .un, .un, .un, .un, .un, .un, .un, .un, .un, .un, .un, .un, .un, .un, .un, .un, .un, .un, .un, .un, .un, .un, .un, .un, .un, .un, .un, .un, .un, .un, .un, .un, .un, .un, .un, .un, .un, .un, .un, .un, .un, .un, .un, .un, .un, .un, .un, .un, .un, .un, .un, .un, .un, .un, .un, .un, .un, .un, .un, .un, .un, .un, .un, .un, .un, .un, .un, .un, .un, .un, .un, .un, .un, .un, .int .i64 (i1 : Int), .bx 0 4, .sl (Fld.rows p0.fields), .int .i64 ((List.length p0.fields) : Int), .bool true, .bool true, .int .i64 (i1 : Int), .bx 1 4, .sl (Fld.rows p1.fields), .int .i64 ((List.length p1.fields) : Int), .bool false, .bool false, .bool false, .tup [], .tup [], .bool false]
def ZO_Kc_b1_4 (_p0 : Val) (_p1 : Val) (_i1 : Nat) (_v1_1 : Int) (_x1 : Fld) : List (Nat × List PV) :=
  []
theorem x_Kc_b1_4 (p0 : Val) (p1 : Val) (_H : H_Kc_b1 p0 p1) (_rec : Rec_Kc p0) (x1 : Fld) (i1 : Nat) (v1_1 : Int) (_hx1 : p0.fields[i1]? = some x1) (_hi1 : i1 < List.length p0.fields) (hc1 : (decide ((i1 : Int) < ((List.length p0.fields) : Int))) = true) (h0 : (decide ((i1 : Int) < ((List.length p1.fields) : Int))) = false) : P_Kc_b1 p0 p1 (E_Kc_b1 p0 p1 i1 v1_1) v1_1 := by
  exact ⟨(envF (Z_Kc_b1_4 p0 p1 i1 v1_1 x1)), (zoF (ZO_Kc_b1_4 p0 p1 i1 v1_1 x1)), tells_outVI VOK.nil (x := ((.exit 2), S_Kc_b1_0 p0 p1 v1_1 (envF (Z_Kc_b1_4 p0 p1 i1 v1_1 x1)) (zoF (ZO_Kc_b1_4 p0 p1 i1 v1_1 x1)))) [hP 3 (len_ok (Fld.rows p0.fields) (List.length p0.fields) (Fld.rowsLen p0.fields)), hB 0 hc1, hP 4 (len_ok (Fld.rows p1.fields) (List.length p1.fields) (Fld.rowsLen p1.fields)), hB 0 h0] [] (by kernel_rfl)⟩
theorem lt_Kc_b1 (p0 : Val) (p1 : Val) (H : H_Kc_b1 p0 p1) (rec : Rec_Kc p0) : ∀ (r1 : List Fld) (i1 : Nat) (v1_1 : Int), List.drop i1 p0.fields = r1 → P_Kc_b1 p0 p1 (E_Kc_b1 p0 p1 i1 v1_1) (l_Kc_b1 p0 p1 r1 i1 v1_1)
  | [], i1, v1_1, hd => by
    have hc1 : (decide ((i1 : Int) < ((List.length p0.fields) : Int))) = false := by have := drop_end hd; simp; omega
    rw [l_Kc_b1]
    exact x_Kc_b1_0 p0 p1 H rec i1 v1_1 hc1
  | x1 :: r1, i1, v1_1, hd => by
    obtain ⟨hx1, hi1, hd'⟩ := drop_get hd
    have hc1 : (decide ((i1 : Int) < ((List.length p0.fields) : Int))) = true := by simp; omega
    rw [l_Kc_b1]
    cases h0 : (decide ((i1 : Int) < ((List.length p1.fields) : Int))) with
    | true =>
     cases h1 : (v1_1 == 0) with
     | true =>
      cases h2 : ((s_Kt (sLt x1.name (List.getD p1.fields i1 (Fld.mk (⟨#[]⟩ : ByteArray) (Val.mk 0 0 (⟨#[]⟩ : ByteArray) [] []))).name) (!((sLt x1.name (List.getD p1.fields i1 (Fld.mk (⟨#[]⟩ : ByteArray) (Val.mk 0 0 (⟨#[]⟩ : ByteArray) [] []))).name) || (sEq x1.name (List.getD p1.fields i1 (Fld.mk (⟨#[]⟩ : ByteArray) (Val.mk 0 0 (⟨#[]⟩ : ByteArray) [] []))).name)))) == 0) with
      | true =>
       exact P_Kc_b1_mono p0 p1 (fun r hr => n_Kc_b1_1 p0 p1 H rec x1 i1 v1_1 hx1 hi1 hc1 h0 h1 h2 hr) _ (lt_Kc_b1 p0 p1 H rec r1 (i1 + 1) (s_Kc x1.v (List.getD p1.fields i1 (Fld.mk (⟨#[]⟩ : ByteArray) (Val.mk 0 0 (⟨#[]⟩ : ByteArray) [] []))).v) hd')
      | false =>
       exact P_Kc_b1_mono p0 p1 (fun r hr => n_Kc_b1_2 p0 p1 H rec x1 i1 v1_1 hx1 hi1 hc1 h0 h1 h2 hr) _ (lt_Kc_b1 p0 p1 H rec r1 (i1 + 1) (s_Kt (sLt x1.name (List.getD p1.fields i1 (Fld.mk (⟨#[]⟩ : ByteArray) (Val.mk 0 0 (⟨#[]⟩ : ByteArray) [] []))).name) (!((sLt x1.name (List.getD p1.fields i1 (Fld.mk (⟨#[]⟩ : ByteArray) (Val.mk 0 0 (⟨#[]⟩ : ByteArray) [] []))).name) || (sEq x1.name (List.getD p1.fields i1 (Fld.mk (⟨#[]⟩ : ByteArray) (Val.mk 0 0 (⟨#[]⟩ : ByteArray) [] []))).name)))) hd')
     | false =>
      exact x_Kc_b1_3 p0 p1 H rec x1 i1 v1_1 hx1 hi1 hc1 h0 h1
    | false =>
     exact x_Kc_b1_4 p0 p1 H rec x1 i1 v1_1 hx1 hi1 hc1 h0
theorem t_Kc_0 (p0 : Val) (p1 : Val) (_H : H_Kc p0) (_rec : Rec_Kc p0) (h0 : ((s_Kt (decide (p0.kind < p1.kind)) (decide (p1.kind < p0.kind))) == 0) = true) (h1 : ((s_Kt (decide (p0.n < p1.n)) (decide (p1.n < p0.n))) == 0) = true) (z2 : Nat → PV) (zo2 : Nat → List PV) (hl2 : Tells G (E_Kc_b0 p0 p1 0 (s_Kt (sLt p0.s p1.s) (!((sLt p0.s p1.s) || (sEq p0.s p1.s))))) (.st (.exit 0) (S_Kc_b0_0 p0 p1 (l_Kc_b0 p0 p1 p0.list 0 (s_Kt (sLt p0.s p1.s) (!((sLt p0.s p1.s) || (sEq p0.s p1.s))))) z2 zo2))) (h2 : ((l_Kc_b0 p0 p1 p0.list 0 (s_Kt (sLt p0.s p1.s) (!((sLt p0.s p1.s) || (sEq p0.s p1.s))))) == 0) = true) (z4 : Nat → PV) (zo4 : Nat → List PV) (hl4 : Tells G (E_Kc_b1 p0 p1 0 (s_Kt (decide (((List.length p0.list) : Int) < ((List.length p1.list) : Int))) (decide (((List.length p1.list) : Int) < ((List.length p0.list) : Int))))) (.st (.exit 2) (S_Kc_b1_0 p0 p1 (l_Kc_b1 p0 p1 p0.fields 0 (s_Kt (decide (((List.length p0.list) : Int) < ((List.length p1.list) : Int))) (decide (((List.length p1.list) : Int) < ((List.length p0.list) : Int))))) z4 zo4))) : Tells G (c_Kc p0 p1) (.ret (.int .i64 (bif ((l_Kc_b1 p0 p1 p0.fields 0 (s_Kt (decide (((List.length p0.list) : Int) < ((List.length p1.list) : Int))) (decide (((List.length p1.list) : Int) < ((List.length p0.list) : Int))))) == 0) then
    (s_Kt (decide (((List.length p0.fields) : Int) < ((List.length p1.fields) : Int))) (decide (((List.length p1.fields) : Int) < ((List.length p0.fields) : Int))))
  else
    (l_Kc_b1 p0 p1 p0.fields 0 (s_Kt (decide (((List.length p0.list) : Int) < ((List.length p1.list) : Int))) (decide (((List.length p1.list) : Int) < ((List.length p0.list) : Int))))))) []) := by
  cases h3 : ((l_Kc_b1 p0 p1 p0.fields 0 (s_Kt (decide (((List.length p0.list) : Int) < ((List.length p1.list) : Int))) (decide (((List.length p1.list) : Int) < ((List.length p0.list) : Int))))) == 0) with
  | true =>
   exact tells_VI (fn := Ir.Kc) rfl VOK.nil [hB 16 h0, hB 13 h1, hB 14 h2, hP 2 (len_ok (Val.rows p0.list) (List.length p0.list) (Val.rowsLen p0.list)), hP 2 (len_ok (Val.rows p1.list) (List.length p1.list) (Val.rowsLen p1.list)), hP 3 (len_ok (Val.rows p0.list) (List.length p0.list) (Val.rowsLen p0.list)), hP 2 (len_ok (Val.rows p1.list) (List.length p1.list) (Val.rowsLen p1.list)), hB 5 h3, hP 2 (len_ok (Fld.rows p0.fields) (List.length p0.fields) (Fld.rowsLen p0.fields)), hP 2 (len_ok (Fld.rows p1.fields) (List.length p1.fields) (Fld.rowsLen p1.fields)), hP 3 (len_ok (Fld.rows p0.fields) (List.length p0.fields) (Fld.rowsLen p0.fields)), hP 2 (len_ok (Fld.rows p1.fields) (List.length p1.fields) (Fld.rowsLen p1.fields))] [aN (t_Kt (decide (p0.kind < p1.kind)) (decide (p1.kind < p0.kind))), aN (t_Kt (decide (p0.n < p1.n)) (decide (p1.n < p0.n))), aN (t_Kt (sLt p0.s p1.s) (!((sLt p0.s p1.s) || (sEq p0.s p1.s)))), aN hl2, aN (t_Kt (decide (((List.length p0.list) : Int) < ((List.length p1.list) : Int))) (decide (((List.length p1.list) : Int) < ((List.length p0.list) : Int)))), aN hl4, aN (t_Kt (decide (((List.length p0.fields) : Int) < ((List.length p1.fields) : Int))) (decide (((List.length p1.fields) : Int) < ((List.length p0.fields) : Int))))] (by kernel_rfl)
  | false =>
   exact tells_VI (fn := Ir.Kc) rfl VOK.nil [hB 16 h0, hB 13 h1, hB 14 h2, hP 2 (len_ok (Val.rows p0.list) (List.length p0.list) (Val.rowsLen p0.list)), hP 2 (len_ok (Val.rows p1.list) (List.length p1.list) (Val.rowsLen p1.list)), hP 3 (len_ok (Val.rows p0.list) (List.length p0.list) (Val.rowsLen p0.list)), hP 2 (len_ok (Val.rows p1.list) (List.length p1.list) (Val.rowsLen p1.list)), hB 5 h3] [aN (t_Kt (decide (p0.kind < p1.kind)) (decide (p1.kind < p0.kind))), aN (t_Kt (decide (p0.n < p1.n)) (decide (p1.n < p0.n))), aN (t_Kt (sLt p0.s p1.s) (!((sLt p0.s p1.s) || (sEq p0.s p1.s)))), aN hl2, aN (t_Kt (decide (((List.length p0.list) : Int) < ((List.length p1.list) : Int))) (decide (((List.length p1.list) : Int) < ((List.length p0.list) : Int)))), aN hl4] (by kernel_rfl)
theorem t_Kc_1 (p0 : Val) (p1 : Val) (_H : H_Kc p0) (_rec : Rec_Kc p0) (h0 : ((s_Kt (decide (p0.kind < p1.kind)) (decide (p1.kind < p0.kind))) == 0) = true) (h1 : ((s_Kt (decide (p0.n < p1.n)) (decide (p1.n < p0.n))) == 0) = true) (z2 : Nat → PV) (zo2 : Nat → List PV) (hl2 : Tells G (E_Kc_b0 p0 p1 0 (s_Kt (sLt p0.s p1.s) (!((sLt p0.s p1.s) || (sEq p0.s p1.s))))) (.st (.exit 0) (S_Kc_b0_0 p0 p1 (l_Kc_b0 p0 p1 p0.list 0 (s_Kt (sLt p0.s p1.s) (!((sLt p0.s p1.s) || (sEq p0.s p1.s))))) z2 zo2))) (h2 : ((l_Kc_b0 p0 p1 p0.list 0 (s_Kt (sLt p0.s p1.s) (!((sLt p0.s p1.s) || (sEq p0.s p1.s))))) == 0) = false) (z4 : Nat → PV) (zo4 : Nat → List PV) (hl4 : Tells G (E_Kc_b1 p0 p1 0 (l_Kc_b0 p0 p1 p0.list 0 (s_Kt (sLt p0.s p1.s) (!((sLt p0.s p1.s) || (sEq p0.s p1.s)))))) (.st (.exit 2) (S_Kc_b1_0 p0 p1 (l_Kc_b1 p0 p1 p0.fields 0 (l_Kc_b0 p0 p1 p0.list 0 (s_Kt (sLt p0.s p1.s) (!((sLt p0.s p1.s) || (sEq p0.s p1.s)))))) z4 zo4))) : Tells G (c_Kc p0 p1) (.ret (.int .i64 (bif ((l_Kc_b1 p0 p1 p0.fields 0 (l_Kc_b0 p0 p1 p0.list 0 (s_Kt (sLt p0.s p1.s) (!((sLt p0.s p1.s) || (sEq p0.s p1.s)))))) == 0) then
    (s_Kt (decide (((List.length p0.fields) : Int) < ((List.length p1.fields) : Int))) (decide (((List.length p1.fields) : Int) < ((List.length p0.fields) : Int))))
  else
    (l_Kc_b1 p0 p1 p0.fields 0 (l_Kc_b0 p0 p1 p0.list 0 (s_Kt (sLt p0.s p1.s) (!((sLt p0.s p1.s) || (sEq p0.s p1.s)))))))) []) := by
  cases h3 : ((l_Kc_b1 p0 p1 p0.fields 0 (l_Kc_b0 p0 p1 p0.list 0 (s_Kt (sLt p0.s p1.s) (!((sLt p0.s p1.s) || (sEq p0.s p1.s)))))) == 0) with
  | true =>
   exact tells_VI (fn := Ir.Kc) rfl VOK.nil [hB 16 h0, hB 13 h1, hB 14 h2, hB 2 h3, hP 2 (len_ok (Fld.rows p0.fields) (List.length p0.fields) (Fld.rowsLen p0.fields)), hP 2 (len_ok (Fld.rows p1.fields) (List.length p1.fields) (Fld.rowsLen p1.fields)), hP 3 (len_ok (Fld.rows p0.fields) (List.length p0.fields) (Fld.rowsLen p0.fields)), hP 2 (len_ok (Fld.rows p1.fields) (List.length p1.fields) (Fld.rowsLen p1.fields))] [aN (t_Kt (decide (p0.kind < p1.kind)) (decide (p1.kind < p0.kind))), aN (t_Kt (decide (p0.n < p1.n)) (decide (p1.n < p0.n))), aN (t_Kt (sLt p0.s p1.s) (!((sLt p0.s p1.s) || (sEq p0.s p1.s)))), aN hl2, aN hl4, aN (t_Kt (decide (((List.length p0.fields) : Int) < ((List.length p1.fields) : Int))) (decide (((List.length p1.fields) : Int) < ((List.length p0.fields) : Int))))] (by kernel_rfl)
  | false =>
   exact tells_VI (fn := Ir.Kc) rfl VOK.nil [hB 16 h0, hB 13 h1, hB 14 h2, hB 2 h3] [aN (t_Kt (decide (p0.kind < p1.kind)) (decide (p1.kind < p0.kind))), aN (t_Kt (decide (p0.n < p1.n)) (decide (p1.n < p0.n))), aN (t_Kt (sLt p0.s p1.s) (!((sLt p0.s p1.s) || (sEq p0.s p1.s)))), aN hl2, aN hl4] (by kernel_rfl)
theorem t_Kc_2 (p0 : Val) (p1 : Val) (_H : H_Kc p0) (_rec : Rec_Kc p0) (h0 : ((s_Kt (decide (p0.kind < p1.kind)) (decide (p1.kind < p0.kind))) == 0) = true) (h1 : ((s_Kt (decide (p0.n < p1.n)) (decide (p1.n < p0.n))) == 0) = false) (z2 : Nat → PV) (zo2 : Nat → List PV) (hl2 : Tells G (E_Kc_b0 p0 p1 0 (s_Kt (decide (p0.n < p1.n)) (decide (p1.n < p0.n)))) (.st (.exit 0) (S_Kc_b0_0 p0 p1 (l_Kc_b0 p0 p1 p0.list 0 (s_Kt (decide (p0.n < p1.n)) (decide (p1.n < p0.n)))) z2 zo2))) (h2 : ((l_Kc_b0 p0 p1 p0.list 0 (s_Kt (decide (p0.n < p1.n)) (decide (p1.n < p0.n)))) == 0) = true) (z4 : Nat → PV) (zo4 : Nat → List PV) (hl4 : Tells G (E_Kc_b1 p0 p1 0 (s_Kt (decide (((List.length p0.list) : Int) < ((List.length p1.list) : Int))) (decide (((List.length p1.list) : Int) < ((List.length p0.list) : Int))))) (.st (.exit 2) (S_Kc_b1_0 p0 p1 (l_Kc_b1 p0 p1 p0.fields 0 (s_Kt (decide (((List.length p0.list) : Int) < ((List.length p1.list) : Int))) (decide (((List.length p1.list) : Int) < ((List.length p0.list) : Int))))) z4 zo4))) : Tells G (c_Kc p0 p1) (.ret (.int .i64 (bif ((l_Kc_b1 p0 p1 p0.fields 0 (s_Kt (decide (((List.length p0.list) : Int) < ((List.length p1.list) : Int))) (decide (((List.length p1.list) : Int) < ((List.length p0.list) : Int))))) == 0) then
    (s_Kt (decide (((List.length p0.fields) : Int) < ((List.length p1.fields) : Int))) (decide (((List.length p1.fields) : Int) < ((List.length p0.fields) : Int))))
  else
    (l_Kc_b1 p0 p1 p0.fields 0 (s_Kt (decide (((List.length p0.list) : Int) < ((List.length p1.list) : Int))) (decide (((List.length p1.list) : Int) < ((List.length p0.list) : Int))))))) []) := by
  cases h3 : ((l_Kc_b1 p0 p1 p0.fields 0 (s_Kt (decide (((List.length p0.list) : Int) < ((List.length p1.list) : Int))) (decide (((List.length p1.list) : Int) < ((List.length p0.list) : Int))))) == 0) with
  | true =>
   exact tells_VI (fn := Ir.Kc) rfl VOK.nil [hB 16 h0, hB 13 h1, hB 2 h2, hP 2 (len_ok (Val.rows p0.list) (List.length p0.list) (Val.rowsLen p0.list)), hP 2 (len_ok (Val.rows p1.list) (List.length p1.list) (Val.rowsLen p1.list)), hP 3 (len_ok (Val.rows p0.list) (List.length p0.list) (Val.rowsLen p0.list)), hP 2 (len_ok (Val.rows p1.list) (List.length p1.list) (Val.rowsLen p1.list)), hB 5 h3, hP 2 (len_ok (Fld.rows p0.fields) (List.length p0.fields) (Fld.rowsLen p0.fields)), hP 2 (len_ok (Fld.rows p1.fields) (List.length p1.fields) (Fld.rowsLen p1.fields)), hP 3 (len_ok (Fld.rows p0.fields) (List.length p0.fields) (Fld.rowsLen p0.fields)), hP 2 (len_ok (Fld.rows p1.fields) (List.length p1.fields) (Fld.rowsLen p1.fields))] [aN (t_Kt (decide (p0.kind < p1.kind)) (decide (p1.kind < p0.kind))), aN (t_Kt (decide (p0.n < p1.n)) (decide (p1.n < p0.n))), aN hl2, aN (t_Kt (decide (((List.length p0.list) : Int) < ((List.length p1.list) : Int))) (decide (((List.length p1.list) : Int) < ((List.length p0.list) : Int)))), aN hl4, aN (t_Kt (decide (((List.length p0.fields) : Int) < ((List.length p1.fields) : Int))) (decide (((List.length p1.fields) : Int) < ((List.length p0.fields) : Int))))] (by kernel_rfl)
  | false =>
   exact tells_VI (fn := Ir.Kc) rfl VOK.nil [hB 16 h0, hB 13 h1, hB 2 h2, hP 2 (len_ok (Val.rows p0.list) (List.length p0.list) (Val.rowsLen p0.list)), hP 2 (len_ok (Val.rows p1.list) (List.length p1.list) (Val.rowsLen p1.list)), hP 3 (len_ok (Val.rows p0.list) (List.length p0.list) (Val.rowsLen p0.list)), hP 2 (len_ok (Val.rows p1.list) (List.length p1.list) (Val.rowsLen p1.list)), hB 5 h3] [aN (t_Kt (decide (p0.kind < p1.kind)) (decide (p1.kind < p0.kind))), aN (t_Kt (decide (p0.n < p1.n)) (decide (p1.n < p0.n))), aN hl2, aN (t_Kt (decide (((List.length p0.list) : Int) < ((List.length p1.list) : Int))) (decide (((List.length p1.list) : Int) < ((List.length p0.list) : Int)))), aN hl4] (by kernel_rfl)
theorem t_Kc_3 (p0 : Val) (p1 : Val) (_H : H_Kc p0) (_rec : Rec_Kc p0) (h0 : ((s_Kt (decide (p0.kind < p1.kind)) (decide (p1.kind < p0.kind))) == 0) = true) (h1 : ((s_Kt (decide (p0.n < p1.n)) (decide (p1.n < p0.n))) == 0) = false) (z2 : Nat → PV) (zo2 : Nat → List PV) (hl2 : Tells G (E_Kc_b0 p0 p1 0 (s_Kt (decide (p0.n < p1.n)) (decide (p1.n < p0.n)))) (.st (.exit 0) (S_Kc_b0_0 p0 p1 (l_Kc_b0 p0 p1 p0.list 0 (s_Kt (decide (p0.n < p1.n)) (decide (p1.n < p0.n)))) z2 zo2))) (h2 : ((l_Kc_b0 p0 p1 p0.list 0 (s_Kt (decide (p0.n < p1.n)) (decide (p1.n < p0.n)))) == 0) = false) (z4 : Nat → PV) (zo4 : Nat → List PV) (hl4 : Tells G (E_Kc_b1 p0 p1 0 (l_Kc_b0 p0 p1 p0.list 0 (s_Kt (decide (p0.n < p1.n)) (decide (p1.n < p0.n))))) (.st (.exit 2) (S_Kc_b1_0 p0 p1 (l_Kc_b1 p0 p1 p0.fields 0 (l_Kc_b0 p0 p1 p0.list 0 (s_Kt (decide (p0.n < p1.n)) (decide (p1.n < p0.n))))) z4 zo4))) : Tells G (c_Kc p0 p1) (.ret (.int .i64 (bif ((l_Kc_b1 p0 p1 p0.fields 0 (l_Kc_b0 p0 p1 p0.list 0 (s_Kt (decide (p0.n < p1.n)) (decide (p1.n < p0.n))))) == 0) then
    (s_Kt (decide (((List.length p0.fields) : Int) < ((List.length p1.fields) : Int))) (decide (((List.length p1.fields) : Int) < ((List.length p0.fields) : Int))))
  else
    (l_Kc_b1 p0 p1 p0.fields 0 (l_Kc_b0 p0 p1 p0.list 0 (s_Kt (decide (p0.n < p1.n)) (decide (p1.n < p0.n))))))) []) := by
  cases h3 : ((l_Kc_b1 p0 p1 p0.fields 0 (l_Kc_b0 p0 p1 p0.list 0 (s_Kt (decide (p0.n < p1.n)) (decide (p1.n < p0.n))))) == 0) with
  | true =>
   exact tells_VI (fn := Ir.Kc) rfl VOK.nil [hB 16 h0, hB 13 h1, hB 2 h2, hB 2 h3, hP 2 (len_ok (Fld.rows p0.fields) (List.length p0.fields) (Fld.rowsLen p0.fields)), hP 2 (len_ok (Fld.rows p1.fields) (List.length p1.fields) (Fld.rowsLen p1.fields)), hP 3 (len_ok (Fld.rows p0.fields) (List.length p0.fields) (Fld.rowsLen p0.fields)), hP 2 (len_ok (Fld.rows p1.fields) (List.length p1.fields) (Fld.rowsLen p1.fields))] [aN (t_Kt (decide (p0.kind < p1.kind)) (decide (p1.kind < p0.kind))), aN (t_Kt (decide (p0.n < p1.n)) (decide (p1.n < p0.n))), aN hl2, aN hl4, aN (t_Kt (decide (((List.length p0.fields) : Int) < ((List.length p1.fields) : Int))) (decide (((List.length p1.fields) : Int) < ((List.length p0.fields) : Int))))] (by kernel_rfl)
  | false =>
   exact tells_VI (fn := Ir.Kc) rfl VOK.nil [hB 16 h0, hB 13 h1, hB 2 h2, hB 2 h3] [aN (t_Kt (decide (p0.kind < p1.kind)) (decide (p1.kind < p0.kind))), aN (t_Kt (decide (p0.n < p1.n)) (decide (p1.n < p0.n))), aN hl2, aN hl4] (by kernel_rfl)
theorem t_Kc_4 (p0 : Val) (p1 : Val) (_H : H_Kc p0) (_rec : Rec_Kc p0) (h0 : ((s_Kt (decide (p0.kind < p1.kind)) (decide (p1.kind < p0.kind))) == 0) = false) (z1 : Nat → PV) (zo1 : Nat → List PV) (hl1 : Tells G (E_Kc_b0 p0 p1 0 (s_Kt (decide (p0.kind < p1.kind)) (decide (p1.kind < p0.kind)))) (.st (.exit 0) (S_Kc_b0_0 p0 p1 (l_Kc_b0 p0 p1 p0.list 0 (s_Kt (decide (p0.kind < p1.kind)) (decide (p1.kind < p0.kind)))) z1 zo1))) (h1 : ((l_Kc_b0 p0 p1 p0.list 0 (s_Kt (decide (p0.kind < p1.kind)) (decide (p1.kind < p0.kind)))) == 0) = true) (z3 : Nat → PV) (zo3 : Nat → List PV) (hl3 : Tells G (E_Kc_b1 p0 p1 0 (s_Kt (decide (((List.length p0.list) : Int) < ((List.length p1.list) : Int))) (decide (((List.length p1.list) : Int) < ((List.length p0.list) : Int))))) (.st (.exit 2) (S_Kc_b1_0 p0 p1 (l_Kc_b1 p0 p1 p0.fields 0 (s_Kt (decide (((List.length p0.list) : Int) < ((List.length p1.list) : Int))) (decide (((List.length p1.list) : Int) < ((List.length p0.list) : Int))))) z3 zo3))) : Tells G (c_Kc p0 p1) (.ret (.int .i64 (bif ((l_Kc_b1 p0 p1 p0.fields 0 (s_Kt (decide (((List.length p0.list) : Int) < ((List.length p1.list) : Int))) (decide (((List.length p1.list) : Int) < ((List.length p0.list) : Int))))) == 0) then
    (s_Kt (decide (((List.length p0.fields) : Int) < ((List.length p1.fields) : Int))) (decide (((List.length p1.fields) : Int) < ((List.length p0.fields) : Int))))
  else
    (l_Kc_b1 p0 p1 p0.fields 0 (s_Kt (decide (((List.length p0.list) : Int) < ((List.length p1.list) : Int))) (decide (((List.length p1.list) : Int) < ((List.length p0.list) : Int))))))) []) := by
  cases h2 : ((l_Kc_b1 p0 p1 p0.fields 0 (s_Kt (decide (((List.length p0.list) : Int) < ((List.length p1.list) : Int))) (decide (((List.length p1.list) : Int) < ((List.length p0.list) : Int))))) == 0) with
  | true =>
   exact tells_VI (fn := Ir.Kc) rfl VOK.nil [hB 16 h0, hB 1 h0, hB 2 h1, hP 2 (len_ok (Val.rows p0.list) (List.length p0.list) (Val.rowsLen p0.list)), hP 2 (len_ok (Val.rows p1.list) (List.length p1.list) (Val.rowsLen p1.list)), hP 3 (len_ok (Val.rows p0.list) (List.length p0.list) (Val.rowsLen p0.list)), hP 2 (len_ok (Val.rows p1.list) (List.length p1.list) (Val.rowsLen p1.list)), hB 5 h2, hP 2 (len_ok (Fld.rows p0.fields) (List.length p0.fields) (Fld.rowsLen p0.fields)), hP 2 (len_ok (Fld.rows p1.fields) (List.length p1.fields) (Fld.rowsLen p1.fields)), hP 3 (len_ok (Fld.rows p0.fields) (List.length p0.fields) (Fld.rowsLen p0.fields)), hP 2 (len_ok (Fld.rows p1.fields) (List.length p1.fields) (Fld.rowsLen p1.fields))] [aN (t_Kt (decide (p0.kind < p1.kind)) (decide (p1.kind < p0.kind))), aN hl1, aN (t_Kt (decide (((List.length p0.list) : Int) < ((List.length p1.list) : Int))) (decide (((List.length p1.list) : Int) < ((List.length p0.list) : Int)))), aN hl3, aN (t_Kt (decide (((List.length p0.fields) : Int) < ((List.length p1.fields) : Int))) (decide (((List.length p1.fields) : Int) < ((List.length p0.fields) : Int))))] (by kernel_rfl)
  | false =>
   exact tells_VI (fn := Ir.Kc) rfl VOK.nil [hB 16 h0, hB 1 h0, hB 2 h1, hP 2 (len_ok (Val.rows p0.list) (List.length p0.list) (Val.rowsLen p0.list)), hP 2 (len_ok (Val.rows p1.list) (List.length p1.list) (Val.rowsLen p1.list)), hP 3 (len_ok (Val.rows p0.list) (List.length p0.list) (Val.rowsLen p0.list)), hP 2 (len_ok (Val.rows p1.list) (List.length p1.list) (Val.rowsLen p1.list)), hB 5 h2] [aN (t_Kt (decide (p0.kind < p1.kind)) (decide (p1.kind < p0.kind))), aN hl1, aN (t_Kt (decide (((List.length p0.list) : Int) < ((List.length p1.list) : Int))) (decide (((List.length p1.list) : Int) < ((List.length p0.list) : Int)))), aN hl3] (by kernel_rfl)
theorem t_Kc_5 (p0 : Val) (p1 : Val) (_H : H_Kc p0) (_rec : Rec_Kc p0) (h0 : ((s_Kt (decide (p0.kind < p1.kind)) (decide (p1.kind < p0.kind))) == 0) = false) (z1 : Nat → PV) (zo1 : Nat → List PV) (hl1 : Tells G (E_Kc_b0 p0 p1 0 (s_Kt (decide (p0.kind < p1.kind)) (decide (p1.kind < p0.kind)))) (.st (.exit 0) (S_Kc_b0_0 p0 p1 (l_Kc_b0 p0 p1 p0.list 0 (s_Kt (decide (p0.kind < p1.kind)) (decide (p1.kind < p0.kind)))) z1 zo1))) (h1 : ((l_Kc_b0 p0 p1 p0.list 0 (s_Kt (decide (p0.kind < p1.kind)) (decide (p1.kind < p0.kind)))) == 0) = false) (z3 : Nat → PV) (zo3 : Nat → List PV) (hl3 : Tells G (E_Kc_b1 p0 p1 0 (l_Kc_b0 p0 p1 p0.list 0 (s_Kt (decide (p0.kind < p1.kind)) (decide (p1.kind < p0.kind))))) (.st (.exit 2) (S_Kc_b1_0 p0 p1 (l_Kc_b1 p0 p1 p0.fields 0 (l_Kc_b0 p0 p1 p0.list 0 (s_Kt (decide (p0.kind < p1.kind)) (decide (p1.kind < p0.kind))))) z3 zo3))) : Tells G (c_Kc p0 p1) (.ret (.int .i64 (bif ((l_Kc_b1 p0 p1 p0.fields 0 (l_Kc_b0 p0 p1 p0.list 0 (s_Kt (decide (p0.kind < p1.kind)) (decide (p1.kind < p0.kind))))) == 0) then
    (s_Kt (decide (((List.length p0.fields) : Int) < ((List.length p1.fields) : Int))) (decide (((List.length p1.fields) : Int) < ((List.length p0.fields) : Int))))
  else
    (l_Kc_b1 p0 p1 p0.fields 0 (l_Kc_b0 p0 p1 p0.list 0 (s_Kt (decide (p0.kind < p1.kind)) (decide (p1.kind < p0.kind))))))) []) := by
  cases h2 : ((l_Kc_b1 p0 p1 p0.fields 0 (l_Kc_b0 p0 p1 p0.list 0 (s_Kt (decide (p0.kind < p1.kind)) (decide (p1.kind < p0.kind))))) == 0) with
  | true =>
   exact tells_VI (fn := Ir.Kc) rfl VOK.nil [hB 16 h0, hB 1 h0, hB 2 h1, hB 2 h2, hP 2 (len_ok (Fld.rows p0.fields) (List.length p0.fields) (Fld.rowsLen p0.fields)), hP 2 (len_ok (Fld.rows p1.fields) (List.length p1.fields) (Fld.rowsLen p1.fields)), hP 3 (len_ok (Fld.rows p0.fields) (List.length p0.fields) (Fld.rowsLen p0.fields)), hP 2 (len_ok (Fld.rows p1.fields) (List.length p1.fields) (Fld.rowsLen p1.fields))] [aN (t_Kt (decide (p0.kind < p1.kind)) (decide (p1.kind < p0.kind))), aN hl1, aN hl3, aN (t_Kt (decide (((List.length p0.fields) : Int) < ((List.length p1.fields) : Int))) (decide (((List.length p1.fields) : Int) < ((List.length p0.fields) : Int))))] (by kernel_rfl)
  | false =>
   exact tells_VI (fn := Ir.Kc) rfl VOK.nil [hB 16 h0, hB 1 h0, hB 2 h1, hB 2 h2] [aN (t_Kt (decide (p0.kind < p1.kind)) (decide (p1.kind < p0.kind))), aN hl1, aN hl3] (by kernel_rfl)
theorem r_Kc (p0 : Val) (p1 : Val) (H : H_Kc p0) (rec : Rec_Kc p0) : Tells G (c_Kc p0 p1) (a_Kc p0 p1) := by
  unfold a_Kc
  rw [s_Kc]
  cases h0 : ((s_Kt (decide (p0.kind < p1.kind)) (decide (p1.kind < p0.kind))) == 0) with
  | true =>
   cases h1 : ((s_Kt (decide (p0.n < p1.n)) (decide (p1.n < p0.n))) == 0) with
   | true =>
    have hl2 := lt_Kc_b0 p0 p1 ((give_Kc p0 p1 H).1) rec p0.list 0 (s_Kt (sLt p0.s p1.s) (!((sLt p0.s p1.s) || (sEq p0.s p1.s)))) (by simp)
    obtain ⟨z2, zo2, hl2⟩ := hl2
    cases h2 : ((l_Kc_b0 p0 p1 p0.list 0 (s_Kt (sLt p0.s p1.s) (!((sLt p0.s p1.s) || (sEq p0.s p1.s))))) == 0) with
    | true =>
     have hl4 := lt_Kc_b1 p0 p1 ((give_Kc p0 p1 H).2.1) rec p0.fields 0 (s_Kt (decide (((List.length p0.list) : Int) < ((List.length p1.list) : Int))) (decide (((List.length p1.list) : Int) < ((List.length p0.list) : Int)))) (by simp)
     obtain ⟨z4, zo4, hl4⟩ := hl4
     exact t_Kc_0 p0 p1 H rec h0 h1 z2 zo2 hl2 h2 z4 zo4 hl4
    | false =>
     have hl4 := lt_Kc_b1 p0 p1 ((give_Kc p0 p1 H).2.1) rec p0.fields 0 (l_Kc_b0 p0 p1 p0.list 0 (s_Kt (sLt p0.s p1.s) (!((sLt p0.s p1.s) || (sEq p0.s p1.s))))) (by simp)
     obtain ⟨z4, zo4, hl4⟩ := hl4
     exact t_Kc_1 p0 p1 H rec h0 h1 z2 zo2 hl2 h2 z4 zo4 hl4
   | false =>
    have hl2 := lt_Kc_b0 p0 p1 ((give_Kc p0 p1 H).1) rec p0.list 0 (s_Kt (decide (p0.n < p1.n)) (decide (p1.n < p0.n))) (by simp)
    obtain ⟨z2, zo2, hl2⟩ := hl2
    cases h2 : ((l_Kc_b0 p0 p1 p0.list 0 (s_Kt (decide (p0.n < p1.n)) (decide (p1.n < p0.n)))) == 0) with
    | true =>
     have hl4 := lt_Kc_b1 p0 p1 ((give_Kc p0 p1 H).2.1) rec p0.fields 0 (s_Kt (decide (((List.length p0.list) : Int) < ((List.length p1.list) : Int))) (decide (((List.length p1.list) : Int) < ((List.length p0.list) : Int)))) (by simp)
     obtain ⟨z4, zo4, hl4⟩ := hl4
     exact t_Kc_2 p0 p1 H rec h0 h1 z2 zo2 hl2 h2 z4 zo4 hl4
    | false =>
     have hl4 := lt_Kc_b1 p0 p1 ((give_Kc p0 p1 H).2.1) rec p0.fields 0 (l_Kc_b0 p0 p1 p0.list 0 (s_Kt (decide (p0.n < p1.n)) (decide (p1.n < p0.n)))) (by simp)
     obtain ⟨z4, zo4, hl4⟩ := hl4
     exact t_Kc_3 p0 p1 H rec h0 h1 z2 zo2 hl2 h2 z4 zo4 hl4
  | false =>
   have hl1 := lt_Kc_b0 p0 p1 ((give_Kc p0 p1 H).1) rec p0.list 0 (s_Kt (decide (p0.kind < p1.kind)) (decide (p1.kind < p0.kind))) (by simp)
   obtain ⟨z1, zo1, hl1⟩ := hl1
   cases h1 : ((l_Kc_b0 p0 p1 p0.list 0 (s_Kt (decide (p0.kind < p1.kind)) (decide (p1.kind < p0.kind)))) == 0) with
   | true =>
    have hl3 := lt_Kc_b1 p0 p1 ((give_Kc p0 p1 H).2.1) rec p0.fields 0 (s_Kt (decide (((List.length p0.list) : Int) < ((List.length p1.list) : Int))) (decide (((List.length p1.list) : Int) < ((List.length p0.list) : Int)))) (by simp)
    obtain ⟨z3, zo3, hl3⟩ := hl3
    exact t_Kc_4 p0 p1 H rec h0 z1 zo1 hl1 h1 z3 zo3 hl3
   | false =>
    have hl3 := lt_Kc_b1 p0 p1 ((give_Kc p0 p1 H).2.1) rec p0.fields 0 (l_Kc_b0 p0 p1 p0.list 0 (s_Kt (decide (p0.kind < p1.kind)) (decide (p1.kind < p0.kind)))) (by simp)
    obtain ⟨z3, zo3, hl3⟩ := hl3
    exact t_Kc_5 p0 p1 H rec h0 z1 zo1 hl1 h1 z3 zo3 hl3
theorem i_Kc : ∀ (k : Nat) (p0 : Val), SizeOf.sizeOf p0 < k → ∀ (p1 : Val), H_Kc p0 → Tells G (c_Kc p0 p1) (a_Kc p0 p1)
  | 0, _, h, _, _ => absurd h (Nat.not_lt_zero _)
  | k + 1, p0, h, p1, H => r_Kc p0 p1 H (fun q hq p1 hH => i_Kc k q (by omega) p1 hH)
theorem t_Kc (p0 : Val) (p1 : Val) (H : H_Kc p0) : Tells G (c_Kc p0 p1) (a_Kc p0 p1) := i_Kc _ p0 (Nat.lt_succ_self _) p1 H
def s_Kf (p0 : Val) (p1 : Val) : Bool :=
  ((s_Kc p0 p1) == 0)
def c_Kf (p0 : Val) (p1 : Val) : En := .call 20 [.agg (Val.cells p0), .agg (Val.cells p1)] []
def a_Kf (p0 : Val) (p1 : Val) : Rs := .ret (.bool (s_Kf p0 p1)) []
def H_Kf (p0 : Val) (_p1 : Val) : Prop := (H_Kc p0) ∧ True
theorem t_Kf (p0 : Val) (p1 : Val) (H : H_Kf p0 p1) : Tells G (c_Kf p0 p1) (a_Kf p0 p1) := by
  unfold a_Kf s_Kf
  exact tells_VI (fn := Ir.Kf) rfl VOK.nil [] [aN (t_Kc p0 p1 H.1)] (by kernel_rfl)
mutual
def s_K1a (p0 p1 : Val) : Int := s_K1 [s_K0 p0.kind p1.kind, s_K0 p0.n p1.n, s_K18 p0.s p1.s, lcV p0.list p1.list, lcF p0.fields p1.fields]
termination_by SizeOf.sizeOf p0
decreasing_by all_goals first | exact Val.lt_list _ | exact Val.lt_fields _
def lcV : List Val → List Val → Int
  | [], [] => 0
  | [], _ :: _ => -1
  | _ :: _, [] => 1
  | x :: l, y :: m => bif s_K1a x y == 0 then lcV l m else s_K1a x y
termination_by l => SizeOf.sizeOf l
decreasing_by all_goals first | exact lt_head _ _ | exact lt_tail _ _
def lcF : List Fld → List Fld → Int
  | [], [] => 0
  | [], _ :: _ => -1
  | _ :: _, [] => 1
  | x :: l, y :: m => bif s_K1 [s_K18 x.name y.name, s_K1a x.v y.v] == 0 then lcF l m else s_K1 [s_K18 x.name y.name, s_K1a x.v y.v]
termination_by l => SizeOf.sizeOf l
decreasing_by all_goals first | exact lt_headv _ _ | exact lt_tail _ _
end
def c_K1a (p0 : Val) (p1 : Val) : En := .call 17 [.agg (Val.cells p0), .agg (Val.cells p1)] []
def a_K1a (p0 : Val) (p1 : Val) : Rs := .ret (.int .i64 (s_K1a p0 p1)) []
def s_K1b (p0 : Fld) (p1 : Fld) : Int :=
  (s_K1 ([(s_K18 p0.name p1.name), (s_K1a p0.v p1.v)]))
def c_K1b (p0 : Fld) (p1 : Fld) : En := .call 46 [.agg (Fld.cells p0), .agg (Fld.cells p1)] []
def a_K1b (p0 : Fld) (p1 : Fld) : Rs := .ret (.int .i64 (s_K1b p0 p1)) []
theorem t_K1b (p0 : Fld) (p1 : Fld) (hc : Tells G (c_K1a p0.v p1.v) (a_K1a p0.v p1.v)) : Tells G (c_K1b p0 p1) (a_K1b p0 p1) := by
  unfold a_K1b s_K1b
  exact tells_VI (fn := Ir.K1b) rfl VOK.nil [] [aN (t_K18 p0.name p1.name), aN hc, aN (t_K1 ([(s_K18 p0.name p1.name), (s_K1a p0.v p1.v)]) (by simp [H_K1, H_K1_b0]))] (by kernel_rfl)
def Rec_Ky_f17 (g : Val → Val → Int) (p0 : List Val) : Prop := ∀ x ∈ p0, ∀ y : Val, Tells G (.call 17 [.agg (Val.cells x), .agg (Val.cells y)] []) (.ret (.int .i64 (g x y)) [])
inductive R_Ky_b0 where
  | k0
  | k1
  | k2 (q0 : Int)
def l_Ky_b0 (g : Val → Val → Int) (p0 : List Val) (p1 : List Val) : List Val → Nat → R_Ky_b0
  | [], _i0 =>
    (.k0)
  | x0 :: r0, i0 =>
    bif (decide (((List.length p1) : Int) ≤ (i0 : Int))) then
      (.k1)
    else
      bif ((g x0 (List.getD p1 i0 (Val.mk 0 0 (⟨#[]⟩ : ByteArray) [] []))) == 0) then
        l_Ky_b0 g p0 p1 r0 (i0 + 1)
      else
        (.k2 (g x0 (List.getD p1 i0 (Val.mk 0 0 (⟨#[]⟩ : ByteArray) [] []))))
def HE_Ky_b0 (_g : Val → Val → Int) (p0 : List Val) (p1 : List Val) (i0 : Nat) : List PV :=
  [.sl (Val.rows p0), .sl (Val.rows p1), .fn 17 [] [], .un, .un, .un, .un, .un, .un, .un, .un, .sl (Val.rows p0), .int .i64 ((List.length p0) : Int), .int .i64 (i0 : Int), .un, .un, .un, .un, .un, .un, .un, .un, .un, .un, .un, .un, .un, .un, .un, .un, .un, .un, .un, .un, .un, .un, .un, .un, .un]
def HO_Ky_b0 (_g : Val → Val → Int) (_p0 : List Val) (_p1 : List Val) (_i0 : Nat) : List Ob :=
  []
def E_Ky_b0 (g : Val → Val → Int) (p0 : List Val) (p1 : List Val) (i0 : Nat) : En := .loop 0 Ir.Ky_b0_live Ir.Ky_b0 (HE_Ky_b0 g p0 p1 i0) (HO_Ky_b0 g p0 p1 i0)
def S_Ky_b0_0 (_g : Val → Val → Int) (p0 : List Val) (p1 : List Val) (z : Nat → PV) (_zo : Nat → List PV) : St :=
  ⟨[.sl (Val.rows p0), .sl (Val.rows p1), z 2, z 3, z 4, z 5, z 6, z 7, z 8, z 9, z 10, z 11, z 12, z 13, z 14, z 15, z 16, z 17, z 18, z 19, z 20, z 21, z 22, z 23, z 24, z 25, z 26, z 27, z 28, z 29, z 30, z 31, z 32, z 33, z 34, z 35, z 36, z 37, z 38], [], 64⟩
def S_Ky_b0_1 (_g : Val → Val → Int) (_p0 : List Val) (_p1 : List Val) (z : Nat → PV) (zo : Nat → List PV) : St :=
  ⟨[z 0, z 1, z 2, z 3, z 4, z 5, .int .i64 1, z 7, z 8, z 9, z 10, z 11, z 12, z 13, z 14, z 15, z 16, z 17, z 18, z 19, z 20, z 21, z 22, z 23, z 24, z 25, z 26, z 27, z 28, z 29, z 30, z 31, z 32, z 33, z 34, z 35, z 36, z 37, z 38], [(256, ⟨5, 0, true, zo 256⟩)], 768⟩
def S_Ky_b0_2 (_g : Val → Val → Int) (_p0 : List Val) (_p1 : List Val) (q0 : Int) (z : Nat → PV) (zo : Nat → List PV) : St :=
  ⟨[z 0, z 1, z 2, z 3, z 4, z 5, .int .i64 q0, z 7, z 8, z 9, z 10, z 11, z 12, z 13, z 14, z 15, z 16, z 17, z 18, z 19, z 20, z 21, z 22, z 23, z 24, z 25, z 26, z 27, z 28, z 29, z 30, z 31, z 32, z 33, z 34, z 35, z 36, z 37, z 38], [(256, ⟨5, 0, true, zo 256⟩), (960, ⟨5, 0, true, zo 960⟩)], 1664⟩
def P_Ky_b0 (g : Val → Val → Int) (p0 : List Val) (p1 : List Val) (e : En) : R_Ky_b0 → Prop
  | .k0 => ∃ z zo, Tells G e (.st (.exit 0) (S_Ky_b0_0 g p0 p1 z zo))
  | .k1 => ∃ z zo, Tells G e (.st .ret (S_Ky_b0_1 g p0 p1 z zo))
  | .k2 q0 => ∃ z zo, Tells G e (.st .ret (S_Ky_b0_2 g p0 p1 q0 z zo))
theorem P_Ky_b0_mono (g : Val → Val → Int) (p0 : List Val) (p1 : List Val) {e e' : En} (h : ∀ r, Tells G e r → Tells G e' r) : ∀ q, P_Ky_b0 g p0 p1 e q → P_Ky_b0 g p0 p1 e' q
  | .k0, ⟨z, zo, hz⟩ => ⟨z, zo, h _ hz⟩
  | .k1, ⟨z, zo, hz⟩ => ⟨z, zo, h _ hz⟩
  | .k2 _, ⟨z, zo, hz⟩ => ⟨z, zo, h _ hz⟩
def H_Ky_b0 (_g : Val → Val → Int) (p0 : List Val) (_p1 : List Val) : Prop := (List.length p0 ≤ 4611686018427387904) ∧ True
def Z_Ky_b0_0 (_g : Val → Val → Int) (p0 : List Val) (_p1 : List Val) (i0 : Nat) : List PV :=
  [.un, .un, .fn 17 [] [], .un, .un, .un, .un, .un, .un, .un, .un, .sl (Val.rows p0), .int .i64 ((List.length p0) : Int), .int .i64 (i0 : Int), .bool false]
def ZO_Ky_b0_0 (_g : Val → Val → Int) (_p0 : List Val) (_p1 : List Val) (_i0 : Nat) : List (Nat × List PV) :=
  []
theorem x_Ky_b0_0 (g : Val → Val → Int) (p0 : List Val) (p1 : List Val) (_H : H_Ky_b0 g p0 p1) (_rec : Rec_Ky_f17 g p0) (i0 : Nat) (hc0 : (decide ((i0 : Int) < ((List.length p0) : Int))) = false) : P_Ky_b0 g p0 p1 (E_Ky_b0 g p0 p1 i0) (.k0) := by
  exact ⟨(envF (Z_Ky_b0_0 g p0 p1 i0)), (zoF (ZO_Ky_b0_0 g p0 p1 i0)), tells_outVI VOK.nil (x := ((.exit 0), S_Ky_b0_0 g p0 p1 (envF (Z_Ky_b0_0 g p0 p1 i0)) (zoF (ZO_Ky_b0_0 g p0 p1 i0)))) [hB 0 hc0] [] (by kernel_rfl)⟩
def Z_Ky_b0_1 (_g : Val → Val → Int) (p0 : List Val) (p1 : List Val) (i0 : Nat) (x0 : Val) : List PV :=
  [.sl (Val.rows p0), .sl (Val.rows p1), .fn 17 [] [], .un, .un, .un, .un, .int .i64 (i0 : Int), .bx 256 0, .un, .un, .sl (Val.rows p0), .int .i64 ((List.length p0) : Int), .int .i64 (i0 : Int), .bool true, .int .i64 (i0 : Int), .rf [.int .i64 x0.kind, .int .i64 x0.n, .str x0.s, .sl (Val.rows x0.list), .sl (Fld.rows x0.fields)], .agg [.int .i64 x0.kind, .int .i64 x0.n, .str x0.s, .sl (Val.rows x0.list), .sl (Fld.rows x0.fields)], .int .i64 (i0 : Int), .sl (Val.rows p1), .int .i64 ((List.length p1) : Int), .bool true]
def ZO_Ky_b0_1 (_g : Val → Val → Int) (_p0 : List Val) (_p1 : List Val) (_i0 : Nat) (x0 : Val) : List (Nat × List PV) :=
  [(256, [.int .i64 x0.kind, .int .i64 x0.n, .str x0.s, .sl (Val.rows x0.list), .sl (Fld.rows x0.fields)])]
theorem x_Ky_b0_1 (g : Val → Val → Int) (p0 : List Val) (p1 : List Val) (_H : H_Ky_b0 g p0 p1) (_rec : Rec_Ky_f17 g p0) (x0 : Val) (i0 : Nat) (hx0 : p0[i0]? = some x0) (_hi0 : i0 < List.length p0) (hc0 : (decide ((i0 : Int) < ((List.length p0) : Int))) = true) (h0 : (decide (((List.length p1) : Int) ≤ (i0 : Int))) = true) : P_Ky_b0 g p0 p1 (E_Ky_b0 g p0 p1 i0) (.k1) := by
  exact ⟨(envF (Z_Ky_b0_1 g p0 p1 i0 x0)), (zoF (ZO_Ky_b0_1 g p0 p1 i0 x0)), tells_outVI VOK.nil (x := (.ret, S_Ky_b0_1 g p0 p1 (envF (Z_Ky_b0_1 g p0 p1 i0 x0)) (zoF (ZO_Ky_b0_1 g p0 p1 i0 x0)))) [hB 0 hc0, hP 1 (ix_ok 5 (Val.rows p0) i0 _ (Val.rowsGet hx0) rfl), hP 6 (len_ok (Val.rows p1) (List.length p1) (Val.rowsLen p1)), hB 0 h0] [] (by kernel_rfl)⟩
theorem n_Ky_b0_2 (g : Val → Val → Int) (p0 : List Val) (p1 : List Val) (H : H_Ky_b0 g p0 p1) (rec : Rec_Ky_f17 g p0) (x0 : Val) (i0 : Nat) (hx0 : p0[i0]? = some x0) (hi0 : i0 < List.length p0) (hc0 : (decide ((i0 : Int) < ((List.length p0) : Int))) = true) (h0 : (decide (((List.length p1) : Int) ≤ (i0 : Int))) = false) (h1 : ((g x0 (List.getD p1 i0 (Val.mk 0 0 (⟨#[]⟩ : ByteArray) [] []))) == 0) = true) {r : Rs} (hr : Tells G (E_Ky_b0 g p0 p1 (i0 + 1)) r) : Tells G (E_Ky_b0 g p0 p1 i0) r := by
  have hB0 := H.1; have e0 := of_decide_eq_false h0; have e1 := eq_of_beq h1
  exact tells_nextVI VOK.nil (y := (HE_Ky_b0 g p0 p1 (i0 + 1), HO_Ky_b0 g p0 p1 (i0 + 1))) [hB 0 hc0, hP 1 (ix_ok 5 (Val.rows p0) i0 _ (Val.rowsGet hx0) rfl), hP 6 (len_ok (Val.rows p1) (List.length p1) (Val.rowsLen p1)), hB 0 h0, hP 2 (ixI_ok 5 (Val.rows p1) (i0 : Int) _ (by omega) (Val.rowsGet (getD_ok p1 (Int.toNat (i0 : Int)) (Val.mk 0 0 (⟨#[]⟩ : ByteArray) [] []) (by omega))) rfl), hP 9 (dec (!((g x0 (List.getD p1 i0 (Val.mk 0 0 (⟨#[]⟩ : ByteArray) [] []))) == 0)) false (by rw [h1]; rfl)), hP 0 (inc_ok i0 (by omega))] [aN (rec x0 (mem_get hx0) (List.getD p1 i0 (Val.mk 0 0 (⟨#[]⟩ : ByteArray) [] [])))] (by kernel_rfl) hr
def Z_Ky_b0_3 (g : Val → Val → Int) (p0 : List Val) (p1 : List Val) (i0 : Nat) (x0 : Val) : List PV :=
  [.sl (Val.rows p0), .sl (Val.rows p1), .fn 17 [] [], .un, .un, .un, .un, .int .i64 (i0 : Int), .bx 256 0, .bx 960 0, .int .i64 (g x0 (List.getD p1 i0 (Val.mk 0 0 (⟨#[]⟩ : ByteArray) [] []))), .sl (Val.rows p0), .int .i64 ((List.length p0) : Int), .int .i64 (i0 : Int), .bool true, .int .i64 (i0 : Int), .rf [.int .i64 x0.kind, .int .i64 x0.n, .str x0.s, .sl (Val.rows x0.list), .sl (Fld.rows x0.fields)], .agg [.int .i64 x0.kind, .int .i64 x0.n, .str x0.s, .sl (Val.rows x0.list), .sl (Fld.rows x0.fields)], .int .i64 (i0 : Int), .sl (Val.rows p1), .int .i64 ((List.length p1) : Int), .bool false, .sl (Val.rows p1), .int .i64 (i0 : Int), .rf [.int .i64 (List.getD p1 i0 (Val.mk 0 0 (⟨#[]⟩ : ByteArray) [] [])).kind, .int .i64 (List.getD p1 i0 (Val.mk 0 0 (⟨#[]⟩ : ByteArray) [] [])).n, .str (List.getD p1 i0 (Val.mk 0 0 (⟨#[]⟩ : ByteArray) [] [])).s, .sl (Val.rows (List.getD p1 i0 (Val.mk 0 0 (⟨#[]⟩ : ByteArray) [] [])).list), .sl (Fld.rows (List.getD p1 i0 (Val.mk 0 0 (⟨#[]⟩ : ByteArray) [] [])).fields)], .agg [.int .i64 (List.getD p1 i0 (Val.mk 0 0 (⟨#[]⟩ : ByteArray) [] [])).kind, .int .i64 (List.getD p1 i0 (Val.mk 0 0 (⟨#[]⟩ : ByteArray) [] [])).n, .str (List.getD p1 i0 (Val.mk 0 0 (⟨#[]⟩ : ByteArray) [] [])).s, .sl (Val.rows (List.getD p1 i0 (Val.mk 0 0 (⟨#[]⟩ : ByteArray) [] [])).list), .sl (Fld.rows (List.getD p1 i0 (Val.mk 0 0 (⟨#[]⟩ : ByteArray) [] [])).fields)], .fn 17 [] [], .agg [.int .i64 x0.kind, .int .i64 x0.n, .str x0.s, .sl (Val.rows x0.list), .sl (Fld.rows x0.fields)], .agg [.int .i64 (List.getD p1 i0 (Val.mk 0 0 (⟨#[]⟩ : ByteArray) [] [])).kind, .int .i64 (List.getD p1 i0 (Val.mk 0 0 (⟨#[]⟩ : ByteArray) [] [])).n, .str (List.getD p1 i0 (Val.mk 0 0 (⟨#[]⟩ : ByteArray) [] [])).s, .sl (Val.rows (List.getD p1 i0 (Val.mk 0 0 (⟨#[]⟩ : ByteArray) [] [])).list), .sl (Fld.rows (List.getD p1 i0 (Val.mk 0 0 (⟨#[]⟩ : ByteArray) [] [])).fields)], .int .i64 (g x0 (List.getD p1 i0 (Val.mk 0 0 (⟨#[]⟩ : ByteArray) [] []))), .int .i64 (g x0 (List.getD p1 i0 (Val.mk 0 0 (⟨#[]⟩ : ByteArray) [] []))), .bool true, .int .i64 (g x0 (List.getD p1 i0 (Val.mk 0 0 (⟨#[]⟩ : ByteArray) [] [])))]
def ZO_Ky_b0_3 (_g : Val → Val → Int) (_p0 : List Val) (p1 : List Val) (i0 : Nat) (x0 : Val) : List (Nat × List PV) :=
  [(256, [.int .i64 x0.kind, .int .i64 x0.n, .str x0.s, .sl (Val.rows x0.list), .sl (Fld.rows x0.fields)]), (960, [.int .i64 (List.getD p1 i0 (Val.mk 0 0 (⟨#[]⟩ : ByteArray) [] [])).kind, .int .i64 (List.getD p1 i0 (Val.mk 0 0 (⟨#[]⟩ : ByteArray) [] [])).n, .str (List.getD p1 i0 (Val.mk 0 0 (⟨#[]⟩ : ByteArray) [] [])).s, .sl (Val.rows (List.getD p1 i0 (Val.mk 0 0 (⟨#[]⟩ : ByteArray) [] [])).list), .sl (Fld.rows (List.getD p1 i0 (Val.mk 0 0 (⟨#[]⟩ : ByteArray) [] [])).fields)])]
theorem x_Ky_b0_3 (g : Val → Val → Int) (p0 : List Val) (p1 : List Val) (H : H_Ky_b0 g p0 p1) (rec : Rec_Ky_f17 g p0) (x0 : Val) (i0 : Nat) (hx0 : p0[i0]? = some x0) (_hi0 : i0 < List.length p0) (hc0 : (decide ((i0 : Int) < ((List.length p0) : Int))) = true) (h0 : (decide (((List.length p1) : Int) ≤ (i0 : Int))) = false) (h1 : ((g x0 (List.getD p1 i0 (Val.mk 0 0 (⟨#[]⟩ : ByteArray) [] []))) == 0) = false) : P_Ky_b0 g p0 p1 (E_Ky_b0 g p0 p1 i0) (.k2 (g x0 (List.getD p1 i0 (Val.mk 0 0 (⟨#[]⟩ : ByteArray) [] [])))) := by
  have hB0 := H.1; have e0 := of_decide_eq_false h0; have e1 := beq_eq_false_iff_ne.1 h1
  exact ⟨(envF (Z_Ky_b0_3 g p0 p1 i0 x0)), (zoF (ZO_Ky_b0_3 g p0 p1 i0 x0)), tells_outVI VOK.nil (x := (.ret, S_Ky_b0_2 g p0 p1 (g x0 (List.getD p1 i0 (Val.mk 0 0 (⟨#[]⟩ : ByteArray) [] []))) (envF (Z_Ky_b0_3 g p0 p1 i0 x0)) (zoF (ZO_Ky_b0_3 g p0 p1 i0 x0)))) [hB 0 hc0, hP 1 (ix_ok 5 (Val.rows p0) i0 _ (Val.rowsGet hx0) rfl), hP 6 (len_ok (Val.rows p1) (List.length p1) (Val.rowsLen p1)), hB 0 h0, hP 2 (ixI_ok 5 (Val.rows p1) (i0 : Int) _ (by omega) (Val.rowsGet (getD_ok p1 (Int.toNat (i0 : Int)) (Val.mk 0 0 (⟨#[]⟩ : ByteArray) [] []) (by omega))) rfl), hP 9 (dec (!((g x0 (List.getD p1 i0 (Val.mk 0 0 (⟨#[]⟩ : ByteArray) [] []))) == 0)) true (by rw [h1]; rfl))] [aN (rec x0 (mem_get hx0) (List.getD p1 i0 (Val.mk 0 0 (⟨#[]⟩ : ByteArray) [] [])))] (by kernel_rfl)⟩
theorem lt_Ky_b0 (g : Val → Val → Int) (p0 : List Val) (p1 : List Val) (H : H_Ky_b0 g p0 p1) (rec : Rec_Ky_f17 g p0) : ∀ (r0 : List Val) (i0 : Nat), List.drop i0 p0 = r0 → P_Ky_b0 g p0 p1 (E_Ky_b0 g p0 p1 i0) (l_Ky_b0 g p0 p1 r0 i0)
  | [], i0, hd => by
    have hc0 : (decide ((i0 : Int) < ((List.length p0) : Int))) = false := by have := drop_end hd; simp; omega
    rw [l_Ky_b0]
    exact x_Ky_b0_0 g p0 p1 H rec i0 hc0
  | x0 :: r0, i0, hd => by
    obtain ⟨hx0, hi0, hd'⟩ := drop_get hd
    have hc0 : (decide ((i0 : Int) < ((List.length p0) : Int))) = true := by simp; omega
    rw [l_Ky_b0]
    cases h0 : (decide (((List.length p1) : Int) ≤ (i0 : Int))) with
    | true =>
     exact x_Ky_b0_1 g p0 p1 H rec x0 i0 hx0 hi0 hc0 h0
    | false =>
     cases h1 : ((g x0 (List.getD p1 i0 (Val.mk 0 0 (⟨#[]⟩ : ByteArray) [] []))) == 0) with
     | true =>
      exact P_Ky_b0_mono g p0 p1 (fun r hr => n_Ky_b0_2 g p0 p1 H rec x0 i0 hx0 hi0 hc0 h0 h1 hr) _ (lt_Ky_b0 g p0 p1 H rec r0 (i0 + 1) hd')
     | false =>
      exact x_Ky_b0_3 g p0 p1 H rec x0 i0 hx0 hi0 hc0 h0 h1
/-- slices.CompareFunc[[]orchestrator/ api.Value,[]orchestrator/ api.Value,orchestrator/ api.Value,orchestrator/ api.Value] -/
def s_Ky_f17 (g : Val → Val → Int) (p0 : List Val) (p1 : List Val) : Int :=
  (match (l_Ky_b0 g p0 p1 p0 0) with
  | .k0 => bif (decide (((List.length p0) : Int) < ((List.length p1) : Int))) then
      (-1)
    else
      0
  | .k1 => 1
  | .k2 y0_0 => y0_0)
def c_Ky_f17 (p0 : List Val) (p1 : List Val) : En := .call 44 [.sl (Val.rows p0), .sl (Val.rows p1), .fn 17 [] []] []
def a_Ky_f17 (g : Val → Val → Int) (p0 : List Val) (p1 : List Val) : Rs := .ret (.int .i64 (s_Ky_f17 g p0 p1)) []
def H_Ky_f17 (g : Val → Val → Int) (p0 : List Val) (p1 : List Val) : Prop := (H_Ky_b0 g p0 p1) ∧ True
theorem t_Ky_f17 (g : Val → Val → Int) (p0 : List Val) (p1 : List Val) (H : H_Ky_f17 g p0 p1) (rec : Rec_Ky_f17 g p0) : Tells G (c_Ky_f17 p0 p1) (a_Ky_f17 g p0 p1) := by
  unfold a_Ky_f17 s_Ky_f17
  have hl0 := lt_Ky_b0 g p0 p1 (H.1) rec p0 0 (by simp)
  cases hr0 : (l_Ky_b0 g p0 p1 p0 0) with
  | k0 =>
    rw [hr0] at hl0
    obtain ⟨z0, zo0, hl0⟩ := hl0
    try dsimp only
    cases h0 : (decide (((List.length p0) : Int) < ((List.length p1) : Int))) with
    | true =>
     exact tells_VI (fn := Ir.Ky) rfl VOK.nil [hP 2 (len_ok (Val.rows p0) (List.length p0) (Val.rowsLen p0)), hP 2 (len_ok (Val.rows p0) (List.length p0) (Val.rowsLen p0)), hP 1 (len_ok (Val.rows p1) (List.length p1) (Val.rowsLen p1)), hB 0 h0] [aN hl0] (by kernel_rfl)
    | false =>
     exact tells_VI (fn := Ir.Ky) rfl VOK.nil [hP 2 (len_ok (Val.rows p0) (List.length p0) (Val.rowsLen p0)), hP 2 (len_ok (Val.rows p0) (List.length p0) (Val.rowsLen p0)), hP 1 (len_ok (Val.rows p1) (List.length p1) (Val.rowsLen p1)), hB 0 h0] [aN hl0] (by kernel_rfl)
  | k1 =>
    rw [hr0] at hl0
    obtain ⟨z0, zo0, hl0⟩ := hl0
    exact tells_VI (fn := Ir.Ky) rfl VOK.nil [hP 2 (len_ok (Val.rows p0) (List.length p0) (Val.rowsLen p0))] [aN hl0] (by kernel_rfl)
  | k2 y0_0 =>
    rw [hr0] at hl0
    obtain ⟨z0, zo0, hl0⟩ := hl0
    exact tells_VI (fn := Ir.Ky) rfl VOK.nil [hP 2 (len_ok (Val.rows p0) (List.length p0) (Val.rowsLen p0))] [aN hl0] (by kernel_rfl)
def Rec_Kz_f46 (g : Fld → Fld → Int) (p0 : List Fld) : Prop := ∀ x ∈ p0, ∀ y : Fld, Tells G (.call 46 [.agg (Fld.cells x), .agg (Fld.cells y)] []) (.ret (.int .i64 (g x y)) [])
inductive R_Kz_b0 where
  | k0
  | k1
  | k2 (q0 : Int)
def l_Kz_b0 (g : Fld → Fld → Int) (p0 : List Fld) (p1 : List Fld) : List Fld → Nat → R_Kz_b0
  | [], _i0 =>
    (.k0)
  | x0 :: r0, i0 =>
    bif (decide (((List.length p1) : Int) ≤ (i0 : Int))) then
      (.k1)
    else
      bif ((g x0 (List.getD p1 i0 (Fld.mk (⟨#[]⟩ : ByteArray) (Val.mk 0 0 (⟨#[]⟩ : ByteArray) [] [])))) == 0) then
        l_Kz_b0 g p0 p1 r0 (i0 + 1)
      else
        (.k2 (g x0 (List.getD p1 i0 (Fld.mk (⟨#[]⟩ : ByteArray) (Val.mk 0 0 (⟨#[]⟩ : ByteArray) [] [])))))
def HE_Kz_b0 (_g : Fld → Fld → Int) (p0 : List Fld) (p1 : List Fld) (i0 : Nat) : List PV :=
  [.sl (Fld.rows p0), .sl (Fld.rows p1), .fn 46 [] [], .un, .un, .un, .un, .un, .un, .un, .un, .sl (Fld.rows p0), .int .i64 ((List.length p0) : Int), .int .i64 (i0 : Int), .un, .un, .un, .un, .un, .un, .un, .un, .un, .un, .un, .un, .un, .un, .un, .un, .un, .un, .un, .un, .un, .un, .un, .un, .un]
def HO_Kz_b0 (_g : Fld → Fld → Int) (_p0 : List Fld) (_p1 : List Fld) (_i0 : Nat) : List Ob :=
  []
def E_Kz_b0 (g : Fld → Fld → Int) (p0 : List Fld) (p1 : List Fld) (i0 : Nat) : En := .loop 0 Ir.Kz_b0_live Ir.Kz_b0 (HE_Kz_b0 g p0 p1 i0) (HO_Kz_b0 g p0 p1 i0)
def S_Kz_b0_0 (_g : Fld → Fld → Int) (p0 : List Fld) (p1 : List Fld) (z : Nat → PV) (_zo : Nat → List PV) : St :=
  ⟨[.sl (Fld.rows p0), .sl (Fld.rows p1), z 2, z 3, z 4, z 5, z 6, z 7, z 8, z 9, z 10, z 11, z 12, z 13, z 14, z 15, z 16, z 17, z 18, z 19, z 20, z 21, z 22, z 23, z 24, z 25, z 26, z 27, z 28, z 29, z 30, z 31, z 32, z 33, z 34, z 35, z 36, z 37, z 38], [], 64⟩
def S_Kz_b0_1 (_g : Fld → Fld → Int) (_p0 : List Fld) (_p1 : List Fld) (z : Nat → PV) (zo : Nat → List PV) : St :=
  ⟨[z 0, z 1, z 2, z 3, z 4, z 5, .int .i64 1, z 7, z 8, z 9, z 10, z 11, z 12, z 13, z 14, z 15, z 16, z 17, z 18, z 19, z 20, z 21, z 22, z 23, z 24, z 25, z 26, z 27, z 28, z 29, z 30, z 31, z 32, z 33, z 34, z 35, z 36, z 37, z 38], [(256, ⟨6, 0, true, zo 256⟩)], 768⟩
def S_Kz_b0_2 (_g : Fld → Fld → Int) (_p0 : List Fld) (_p1 : List Fld) (q0 : Int) (z : Nat → PV) (zo : Nat → List PV) : St :=
  ⟨[z 0, z 1, z 2, z 3, z 4, z 5, .int .i64 q0, z 7, z 8, z 9, z 10, z 11, z 12, z 13, z 14, z 15, z 16, z 17, z 18, z 19, z 20, z 21, z 22, z 23, z 24, z 25, z 26, z 27, z 28, z 29, z 30, z 31, z 32, z 33, z 34, z 35, z 36, z 37, z 38], [(256, ⟨6, 0, true, zo 256⟩), (960, ⟨6, 0, true, zo 960⟩)], 1664⟩
def P_Kz_b0 (g : Fld → Fld → Int) (p0 : List Fld) (p1 : List Fld) (e : En) : R_Kz_b0 → Prop
  | .k0 => ∃ z zo, Tells G e (.st (.exit 0) (S_Kz_b0_0 g p0 p1 z zo))
  | .k1 => ∃ z zo, Tells G e (.st .ret (S_Kz_b0_1 g p0 p1 z zo))
  | .k2 q0 => ∃ z zo, Tells G e (.st .ret (S_Kz_b0_2 g p0 p1 q0 z zo))
theorem P_Kz_b0_mono (g : Fld → Fld → Int) (p0 : List Fld) (p1 : List Fld) {e e' : En} (h : ∀ r, Tells G e r → Tells G e' r) : ∀ q, P_Kz_b0 g p0 p1 e q → P_Kz_b0 g p0 p1 e' q
  | .k0, ⟨z, zo, hz⟩ => ⟨z, zo, h _ hz⟩
  | .k1, ⟨z, zo, hz⟩ => ⟨z, zo, h _ hz⟩
  | .k2 _, ⟨z, zo, hz⟩ => ⟨z, zo, h _ hz⟩
def H_Kz_b0 (_g : Fld → Fld → Int) (p0 : List Fld) (_p1 : List Fld) : Prop := (List.length p0 ≤ 4611686018427387904) ∧ True
def Z_Kz_b0_0 (_g : Fld → Fld → Int) (p0 : List Fld) (_p1 : List Fld) (i0 : Nat) : List PV :=
  [.un, .un, .fn 46 [] [], .un, .un, .un, .un, .un, .un, .un, .un, .sl (Fld.rows p0), .int .i64 ((List.length p0) : Int), .int .i64 (i0 : Int), .bool false]
def ZO_Kz_b0_0 (_g : Fld → Fld → Int) (_p0 : List Fld) (_p1 : List Fld) (_i0 : Nat) : List (Nat × List PV) :=
  []
theorem x_Kz_b0_0 (g : Fld → Fld → Int) (p0 : List Fld) (p1 : List Fld) (_H : H_Kz_b0 g p0 p1) (_rec : Rec_Kz_f46 g p0) (i0 : Nat) (hc0 : (decide ((i0 : Int) < ((List.length p0) : Int))) = false) : P_Kz_b0 g p0 p1 (E_Kz_b0 g p0 p1 i0) (.k0) := by
  exact ⟨(envF (Z_Kz_b0_0 g p0 p1 i0)), (zoF (ZO_Kz_b0_0 g p0 p1 i0)), tells_outVI VOK.nil (x := ((.exit 0), S_Kz_b0_0 g p0 p1 (envF (Z_Kz_b0_0 g p0 p1 i0)) (zoF (ZO_Kz_b0_0 g p0 p1 i0)))) [hB 0 hc0] [] (by kernel_rfl)⟩
def Z_Kz_b0_1 (_g : Fld → Fld → Int) (p0 : List Fld) (p1 : List Fld) (i0 : Nat) (x0 : Fld) : List PV :=
  [.sl (Fld.rows p0), .sl (Fld.rows p1), .fn 46 [] [], .un, .un, .un, .un, .int .i64 (i0 : Int), .bx 256 0, .un, .un, .sl (Fld.rows p0), .int .i64 ((List.length p0) : Int), .int .i64 (i0 : Int), .bool true, .int .i64 (i0 : Int), .rf [.str x0.name, .int .i64 x0.v.kind, .int .i64 x0.v.n, .str x0.v.s, .sl (Val.rows x0.v.list), .sl (Fld.rows x0.v.fields)], .agg [.str x0.name, .int .i64 x0.v.kind, .int .i64 x0.v.n, .str x0.v.s, .sl (Val.rows x0.v.list), .sl (Fld.rows x0.v.fields)], .int .i64 (i0 : Int), .sl (Fld.rows p1), .int .i64 ((List.length p1) : Int), .bool true]
def ZO_Kz_b0_1 (_g : Fld → Fld → Int) (_p0 : List Fld) (_p1 : List Fld) (_i0 : Nat) (x0 : Fld) : List (Nat × List PV) :=
  [(256, [.str x0.name, .int .i64 x0.v.kind, .int .i64 x0.v.n, .str x0.v.s, .sl (Val.rows x0.v.list), .sl (Fld.rows x0.v.fields)])]
theorem x_Kz_b0_1 (g : Fld → Fld → Int) (p0 : List Fld) (p1 : List Fld) (_H : H_Kz_b0 g p0 p1) (_rec : Rec_Kz_f46 g p0) (x0 : Fld) (i0 : Nat) (hx0 : p0[i0]? = some x0) (_hi0 : i0 < List.length p0) (hc0 : (decide ((i0 : Int) < ((List.length p0) : Int))) = true) (h0 : (decide (((List.length p1) : Int) ≤ (i0 : Int))) = true) : P_Kz_b0 g p0 p1 (E_Kz_b0 g p0 p1 i0) (.k1) := by
  exact ⟨(envF (Z_Kz_b0_1 g p0 p1 i0 x0)), (zoF (ZO_Kz_b0_1 g p0 p1 i0 x0)), tells_outVI VOK.nil (x := (.ret, S_Kz_b0_1 g p0 p1 (envF (Z_Kz_b0_1 g p0 p1 i0 x0)) (zoF (ZO_Kz_b0_1 g p0 p1 i0 x0)))) [hB 0 hc0, hP 1 (ix_ok 6 (Fld.rows p0) i0 _ (Fld.rowsGet hx0) rfl), hP 6 (len_ok (Fld.rows p1) (List.length p1) (Fld.rowsLen p1)), hB 0 h0] [] (by kernel_rfl)⟩
theorem n_Kz_b0_2 (g : Fld → Fld → Int) (p0 : List Fld) (p1 : List Fld) (H : H_Kz_b0 g p0 p1) (rec : Rec_Kz_f46 g p0) (x0 : Fld) (i0 : Nat) (hx0 : p0[i0]? = some x0) (hi0 : i0 < List.length p0) (hc0 : (decide ((i0 : Int) < ((List.length p0) : Int))) = true) (h0 : (decide (((List.length p1) : Int) ≤ (i0 : Int))) = false) (h1 : ((g x0 (List.getD p1 i0 (Fld.mk (⟨#[]⟩ : ByteArray) (Val.mk 0 0 (⟨#[]⟩ : ByteArray) [] [])))) == 0) = true) {r : Rs} (hr : Tells G (E_Kz_b0 g p0 p1 (i0 + 1)) r) : Tells G (E_Kz_b0 g p0 p1 i0) r := by
  have hB0 := H.1; have e0 := of_decide_eq_false h0; have e1 := eq_of_beq h1
  exact tells_nextVI VOK.nil (y := (HE_Kz_b0 g p0 p1 (i0 + 1), HO_Kz_b0 g p0 p1 (i0 + 1))) [hB 0 hc0, hP 1 (ix_ok 6 (Fld.rows p0) i0 _ (Fld.rowsGet hx0) rfl), hP 6 (len_ok (Fld.rows p1) (List.length p1) (Fld.rowsLen p1)), hB 0 h0, hP 2 (ixI_ok 6 (Fld.rows p1) (i0 : Int) _ (by omega) (Fld.rowsGet (getD_ok p1 (Int.toNat (i0 : Int)) (Fld.mk (⟨#[]⟩ : ByteArray) (Val.mk 0 0 (⟨#[]⟩ : ByteArray) [] [])) (by omega))) rfl), hP 9 (dec (!((g x0 (List.getD p1 i0 (Fld.mk (⟨#[]⟩ : ByteArray) (Val.mk 0 0 (⟨#[]⟩ : ByteArray) [] [])))) == 0)) false (by rw [h1]; rfl)), hP 0 (inc_ok i0 (by omega))] [aN (rec x0 (mem_get hx0) (List.getD p1 i0 (Fld.mk (⟨#[]⟩ : ByteArray) (Val.mk 0 0 (⟨#[]⟩ : ByteArray) [] []))))] (by kernel_rfl) hr
def Z_Kz_b0_3 (g : Fld → Fld → Int) (p0 : List Fld) (p1 : List Fld) (i0 : Nat) (x0 : Fld) : List PV :=
  [.sl (Fld.rows p0), .sl (Fld.rows p1), .fn 46 [] [], .un, .un, .un, .un, .int .i64 (i0 : Int), .bx 256 0, .bx 960 0, .int .i64 (g x0 (List.getD p1 i0 (Fld.mk (⟨#[]⟩ : ByteArray) (Val.mk 0 0 (⟨#[]⟩ : ByteArray) [] [])))), .sl (Fld.rows p0), .int .i64 ((List.length p0) : Int), .int .i64 (i0 : Int), .bool true, .int .i64 (i0 : Int), .rf [.str x0.name, .int .i64 x0.v.kind, .int .i64 x0.v.n, .str x0.v.s, .sl (Val.rows x0.v.list), .sl (Fld.rows x0.v.fields)], .agg [.str x0.name, .int .i64 x0.v.kind, .int .i64 x0.v.n, .str x0.v.s, .sl (Val.rows x0.v.list), .sl (Fld.rows x0.v.fields)], .int .i64 (i0 : Int), .sl (Fld.rows p1), .int .i64 ((List.length p1) : Int), .bool false, .sl (Fld.rows p1), .int .i64 (i0 : Int), .rf [.str (List.getD p1 i0 (Fld.mk (⟨#[]⟩ : ByteArray) (Val.mk 0 0 (⟨#[]⟩ : ByteArray) [] []))).name, .int .i64 (List.getD p1 i0 (Fld.mk (⟨#[]⟩ : ByteArray) (Val.mk 0 0 (⟨#[]⟩ : ByteArray) [] []))).v.kind, .int .i64 (List.getD p1 i0 (Fld.mk (⟨#[]⟩ : ByteArray) (Val.mk 0 0 (⟨#[]⟩ : ByteArray) [] []))).v.n, .str (List.getD p1 i0 (Fld.mk (⟨#[]⟩ : ByteArray) (Val.mk 0 0 (⟨#[]⟩ : ByteArray) [] []))).v.s, .sl (Val.rows (List.getD p1 i0 (Fld.mk (⟨#[]⟩ : ByteArray) (Val.mk 0 0 (⟨#[]⟩ : ByteArray) [] []))).v.list), .sl (Fld.rows (List.getD p1 i0 (Fld.mk (⟨#[]⟩ : ByteArray) (Val.mk 0 0 (⟨#[]⟩ : ByteArray) [] []))).v.fields)], .agg [.str (List.getD p1 i0 (Fld.mk (⟨#[]⟩ : ByteArray) (Val.mk 0 0 (⟨#[]⟩ : ByteArray) [] []))).name, .int .i64 (List.getD p1 i0 (Fld.mk (⟨#[]⟩ : ByteArray) (Val.mk 0 0 (⟨#[]⟩ : ByteArray) [] []))).v.kind, .int .i64 (List.getD p1 i0 (Fld.mk (⟨#[]⟩ : ByteArray) (Val.mk 0 0 (⟨#[]⟩ : ByteArray) [] []))).v.n, .str (List.getD p1 i0 (Fld.mk (⟨#[]⟩ : ByteArray) (Val.mk 0 0 (⟨#[]⟩ : ByteArray) [] []))).v.s, .sl (Val.rows (List.getD p1 i0 (Fld.mk (⟨#[]⟩ : ByteArray) (Val.mk 0 0 (⟨#[]⟩ : ByteArray) [] []))).v.list), .sl (Fld.rows (List.getD p1 i0 (Fld.mk (⟨#[]⟩ : ByteArray) (Val.mk 0 0 (⟨#[]⟩ : ByteArray) [] []))).v.fields)], .fn 46 [] [], .agg [.str x0.name, .int .i64 x0.v.kind, .int .i64 x0.v.n, .str x0.v.s, .sl (Val.rows x0.v.list), .sl (Fld.rows x0.v.fields)], .agg [.str (List.getD p1 i0 (Fld.mk (⟨#[]⟩ : ByteArray) (Val.mk 0 0 (⟨#[]⟩ : ByteArray) [] []))).name, .int .i64 (List.getD p1 i0 (Fld.mk (⟨#[]⟩ : ByteArray) (Val.mk 0 0 (⟨#[]⟩ : ByteArray) [] []))).v.kind, .int .i64 (List.getD p1 i0 (Fld.mk (⟨#[]⟩ : ByteArray) (Val.mk 0 0 (⟨#[]⟩ : ByteArray) [] []))).v.n, .str (List.getD p1 i0 (Fld.mk (⟨#[]⟩ : ByteArray) (Val.mk 0 0 (⟨#[]⟩ : ByteArray) [] []))).v.s, .sl (Val.rows (List.getD p1 i0 (Fld.mk (⟨#[]⟩ : ByteArray) (Val.mk 0 0 (⟨#[]⟩ : ByteArray) [] []))).v.list), .sl (Fld.rows (List.getD p1 i0 (Fld.mk (⟨#[]⟩ : ByteArray) (Val.mk 0 0 (⟨#[]⟩ : ByteArray) [] []))).v.fields)], .int .i64 (g x0 (List.getD p1 i0 (Fld.mk (⟨#[]⟩ : ByteArray) (Val.mk 0 0 (⟨#[]⟩ : ByteArray) [] [])))), .int .i64 (g x0 (List.getD p1 i0 (Fld.mk (⟨#[]⟩ : ByteArray) (Val.mk 0 0 (⟨#[]⟩ : ByteArray) [] [])))), .bool true, .int .i64 (g x0 (List.getD p1 i0 (Fld.mk (⟨#[]⟩ : ByteArray) (Val.mk 0 0 (⟨#[]⟩ : ByteArray) [] []))))]
def ZO_Kz_b0_3 (_g : Fld → Fld → Int) (_p0 : List Fld) (p1 : List Fld) (i0 : Nat) (x0 : Fld) : List (Nat × List PV) :=
  [(256, [.str x0.name, .int .i64 x0.v.kind, .int .i64 x0.v.n, .str x0.v.s, .sl (Val.rows x0.v.list), .sl (Fld.rows x0.v.fields)]), (960, [.str (List.getD p1 i0 (Fld.mk (⟨#[]⟩ : ByteArray) (Val.mk 0 0 (⟨#[]⟩ : ByteArray) [] []))).name, .int .i64 (List.getD p1 i0 (Fld.mk (⟨#[]⟩ : ByteArray) (Val.mk 0 0 (⟨#[]⟩ : ByteArray) [] []))).v.kind, .int .i64 (List.getD p1 i0 (Fld.mk (⟨#[]⟩ : ByteArray) (Val.mk 0 0 (⟨#[]⟩ : ByteArray) [] []))).v.n, .str (List.getD p1 i0 (Fld.mk (⟨#[]⟩ : ByteArray) (Val.mk 0 0 (⟨#[]⟩ : ByteArray) [] []))).v.s, .sl (Val.rows (List.getD p1 i0 (Fld.mk (⟨#[]⟩ : ByteArray) (Val.mk 0 0 (⟨#[]⟩ : ByteArray) [] []))).v.list), .sl (Fld.rows (List.getD p1 i0 (Fld.mk (⟨#[]⟩ : ByteArray) (Val.mk 0 0 (⟨#[]⟩ : ByteArray) [] []))).v.fields)])]
theorem x_Kz_b0_3 (g : Fld → Fld → Int) (p0 : List Fld) (p1 : List Fld) (H : H_Kz_b0 g p0 p1) (rec : Rec_Kz_f46 g p0) (x0 : Fld) (i0 : Nat) (hx0 : p0[i0]? = some x0) (_hi0 : i0 < List.length p0) (hc0 : (decide ((i0 : Int) < ((List.length p0) : Int))) = true) (h0 : (decide (((List.length p1) : Int) ≤ (i0 : Int))) = false) (h1 : ((g x0 (List.getD p1 i0 (Fld.mk (⟨#[]⟩ : ByteArray) (Val.mk 0 0 (⟨#[]⟩ : ByteArray) [] [])))) == 0) = false) : P_Kz_b0 g p0 p1 (E_Kz_b0 g p0 p1 i0) (.k2 (g x0 (List.getD p1 i0 (Fld.mk (⟨#[]⟩ : ByteArray) (Val.mk 0 0 (⟨#[]⟩ : ByteArray) [] []))))) := by
  have hB0 := H.1; have e0 := of_decide_eq_false h0; have e1 := beq_eq_false_iff_ne.1 h1
  exact ⟨(envF (Z_Kz_b0_3 g p0 p1 i0 x0)), (zoF (ZO_Kz_b0_3 g p0 p1 i0 x0)), tells_outVI VOK.nil (x := (.ret, S_Kz_b0_2 g p0 p1 (g x0 (List.getD p1 i0 (Fld.mk (⟨#[]⟩ : ByteArray) (Val.mk 0 0 (⟨#[]⟩ : ByteArray) [] [])))) (envF (Z_Kz_b0_3 g p0 p1 i0 x0)) (zoF (ZO_Kz_b0_3 g p0 p1 i0 x0)))) [hB 0 hc0, hP 1 (ix_ok 6 (Fld.rows p0) i0 _ (Fld.rowsGet hx0) rfl), hP 6 (len_ok (Fld.rows p1) (List.length p1) (Fld.rowsLen p1)), hB 0 h0, hP 2 (ixI_ok 6 (Fld.rows p1) (i0 : Int) _ (by omega) (Fld.rowsGet (getD_ok p1 (Int.toNat (i0 : Int)) (Fld.mk (⟨#[]⟩ : ByteArray) (Val.mk 0 0 (⟨#[]⟩ : ByteArray) [] [])) (by omega))) rfl), hP 9 (dec (!((g x0 (List.getD p1 i0 (Fld.mk (⟨#[]⟩ : ByteArray) (Val.mk 0 0 (⟨#[]⟩ : ByteArray) [] [])))) == 0)) true (by rw [h1]; rfl))] [aN (rec x0 (mem_get hx0) (List.getD p1 i0 (Fld.mk (⟨#[]⟩ : ByteArray) (Val.mk 0 0 (⟨#[]⟩ : ByteArray) [] []))))] (by kernel_rfl)⟩
theorem lt_Kz_b0 (g : Fld → Fld → Int) (p0 : List Fld) (p1 : List Fld) (H : H_Kz_b0 g p0 p1) (rec : Rec_Kz_f46 g p0) : ∀ (r0 : List Fld) (i0 : Nat), List.drop i0 p0 = r0 → P_Kz_b0 g p0 p1 (E_Kz_b0 g p0 p1 i0) (l_Kz_b0 g p0 p1 r0 i0)
  | [], i0, hd => by
    have hc0 : (decide ((i0 : Int) < ((List.length p0) : Int))) = false := by have := drop_end hd; simp; omega
    rw [l_Kz_b0]
    exact x_Kz_b0_0 g p0 p1 H rec i0 hc0
  | x0 :: r0, i0, hd => by
    obtain ⟨hx0, hi0, hd'⟩ := drop_get hd
    have hc0 : (decide ((i0 : Int) < ((List.length p0) : Int))) = true := by simp; omega
    rw [l_Kz_b0]
    cases h0 : (decide (((List.length p1) : Int) ≤ (i0 : Int))) with
    | true =>
     exact x_Kz_b0_1 g p0 p1 H rec x0 i0 hx0 hi0 hc0 h0
    | false =>
     cases h1 : ((g x0 (List.getD p1 i0 (Fld.mk (⟨#[]⟩ : ByteArray) (Val.mk 0 0 (⟨#[]⟩ : ByteArray) [] [])))) == 0) with
     | true =>
      exact P_Kz_b0_mono g p0 p1 (fun r hr => n_Kz_b0_2 g p0 p1 H rec x0 i0 hx0 hi0 hc0 h0 h1 hr) _ (lt_Kz_b0 g p0 p1 H rec r0 (i0 + 1) hd')
     | false =>
      exact x_Kz_b0_3 g p0 p1 H rec x0 i0 hx0 hi0 hc0 h0 h1
/-- slices.CompareFunc[[]orchestrator/ api.Field,[]orchestrator/ api.Field,orchestrator/ api.Field,orchestrator/ api.Field] -/
def s_Kz_f46 (g : Fld → Fld → Int) (p0 : List Fld) (p1 : List Fld) : Int :=
  (match (l_Kz_b0 g p0 p1 p0 0) with
  | .k0 => bif (decide (((List.length p0) : Int) < ((List.length p1) : Int))) then
      (-1)
    else
      0
  | .k1 => 1
  | .k2 y0_0 => y0_0)
def c_Kz_f46 (p0 : List Fld) (p1 : List Fld) : En := .call 45 [.sl (Fld.rows p0), .sl (Fld.rows p1), .fn 46 [] []] []
def a_Kz_f46 (g : Fld → Fld → Int) (p0 : List Fld) (p1 : List Fld) : Rs := .ret (.int .i64 (s_Kz_f46 g p0 p1)) []
def H_Kz_f46 (g : Fld → Fld → Int) (p0 : List Fld) (p1 : List Fld) : Prop := (H_Kz_b0 g p0 p1) ∧ True
theorem t_Kz_f46 (g : Fld → Fld → Int) (p0 : List Fld) (p1 : List Fld) (H : H_Kz_f46 g p0 p1) (rec : Rec_Kz_f46 g p0) : Tells G (c_Kz_f46 p0 p1) (a_Kz_f46 g p0 p1) := by
  unfold a_Kz_f46 s_Kz_f46
  have hl0 := lt_Kz_b0 g p0 p1 (H.1) rec p0 0 (by simp)
  cases hr0 : (l_Kz_b0 g p0 p1 p0 0) with
  | k0 =>
    rw [hr0] at hl0
    obtain ⟨z0, zo0, hl0⟩ := hl0
    try dsimp only
    cases h0 : (decide (((List.length p0) : Int) < ((List.length p1) : Int))) with
    | true =>
     exact tells_VI (fn := Ir.Kz) rfl VOK.nil [hP 2 (len_ok (Fld.rows p0) (List.length p0) (Fld.rowsLen p0)), hP 2 (len_ok (Fld.rows p0) (List.length p0) (Fld.rowsLen p0)), hP 1 (len_ok (Fld.rows p1) (List.length p1) (Fld.rowsLen p1)), hB 0 h0] [aN hl0] (by kernel_rfl)
    | false =>
     exact tells_VI (fn := Ir.Kz) rfl VOK.nil [hP 2 (len_ok (Fld.rows p0) (List.length p0) (Fld.rowsLen p0)), hP 2 (len_ok (Fld.rows p0) (List.length p0) (Fld.rowsLen p0)), hP 1 (len_ok (Fld.rows p1) (List.length p1) (Fld.rowsLen p1)), hB 0 h0] [aN hl0] (by kernel_rfl)
  | k1 =>
    rw [hr0] at hl0
    obtain ⟨z0, zo0, hl0⟩ := hl0
    exact tells_VI (fn := Ir.Kz) rfl VOK.nil [hP 2 (len_ok (Fld.rows p0) (List.length p0) (Fld.rowsLen p0))] [aN hl0] (by kernel_rfl)
  | k2 y0_0 =>
    rw [hr0] at hl0
    obtain ⟨z0, zo0, hl0⟩ := hl0
    exact tells_VI (fn := Ir.Kz) rfl VOK.nil [hP 2 (len_ok (Fld.rows p0) (List.length p0) (Fld.rowsLen p0))] [aN hl0] (by kernel_rfl)
end Go.Proofs.Ytedohmdgbilicaa
end

section
/- What the functions of the chapter on values compute (printed by a program). -/
namespace Go.Proofs.Ytedohmdgbilicaa
open Go.Pv
theorem eqV_b0 (p0 p1 : List Val) : ∀ (l : List Val) (i : Nat), p0.length = i + l.length → (match l_Ky_b0 s_K1a p0 p1 l i with | .k0 => bif decide (((List.length p0) : Int) < ((List.length p1) : Int)) then (-1 : Int) else 0 | .k1 => 1 | .k2 q => q) = lcV l (p1.drop i)
  | [], i, h => by
    rw [l_Ky_b0]
    simp only [List.length_nil, Nat.add_zero] at h
    cases e : p1.drop i with
    | nil =>
      have := List.drop_eq_nil_iff.1 e
      rw [lcV, show decide (((List.length p0) : Int) < ((List.length p1) : Int)) = false by simp; omega]
      rfl
    | cons y m =>
      have : i < p1.length := by
        apply Decidable.byContradiction
        intro hn
        rw [List.drop_eq_nil_of_le (by omega)] at e
        cases e
      rw [lcV, show decide (((List.length p0) : Int) < ((List.length p1) : Int)) = true by simp; omega]
      rfl
  | x :: l, i, h => by
    rw [l_Ky_b0]
    by_cases c : p1.length ≤ i
    · rw [show decide (((List.length p1) : Int) ≤ (i : Int)) = true by simpa using c, cond_true, List.drop_eq_nil_of_le c, lcV]
    · rw [show decide (((List.length p1) : Int) ≤ (i : Int)) = false by simpa using c, cond_false]
      have hl : i < p1.length := by omega
      rw [List.drop_eq_getElem_cons hl, lcV, List.getD_eq_getElem?_getD, List.getElem?_eq_getElem hl, Option.getD_some]
      cases s_K1a x p1[i] == 0 with
      | true => exact eqV_b0 p0 p1 l (i + 1) (by simp at h; omega)
      | false => rfl
theorem eqV (p0 p1 : List Val) : lcV p0 p1 = s_Ky_f17 s_K1a p0 p1 := by
  have h := eqV_b0 p0 p1 p0 0 (by simp)
  rw [List.drop_zero] at h
  rw [← h]
  unfold s_Ky_f17
  cases l_Ky_b0 s_K1a p0 p1 p0 0 <;> rfl
theorem eqF_b0 (p0 p1 : List Fld) : ∀ (l : List Fld) (i : Nat), p0.length = i + l.length → (match l_Kz_b0 s_K1b p0 p1 l i with | .k0 => bif decide (((List.length p0) : Int) < ((List.length p1) : Int)) then (-1 : Int) else 0 | .k1 => 1 | .k2 q => q) = lcF l (p1.drop i)
  | [], i, h => by
    rw [l_Kz_b0]
    simp only [List.length_nil, Nat.add_zero] at h
    cases e : p1.drop i with
    | nil =>
      have := List.drop_eq_nil_iff.1 e
      rw [lcF, show decide (((List.length p0) : Int) < ((List.length p1) : Int)) = false by simp; omega]
      rfl
    | cons y m =>
      have : i < p1.length := by
        apply Decidable.byContradiction
        intro hn
        rw [List.drop_eq_nil_of_le (by omega)] at e
        cases e
      rw [lcF, show decide (((List.length p0) : Int) < ((List.length p1) : Int)) = true by simp; omega]
      rfl
  | x :: l, i, h => by
    rw [l_Kz_b0]
    by_cases c : p1.length ≤ i
    · rw [show decide (((List.length p1) : Int) ≤ (i : Int)) = true by simpa using c, cond_true, List.drop_eq_nil_of_le c, lcF]
    · rw [show decide (((List.length p1) : Int) ≤ (i : Int)) = false by simpa using c, cond_false]
      have hl : i < p1.length := by omega
      rw [List.drop_eq_getElem_cons hl, lcF, List.getD_eq_getElem?_getD, List.getElem?_eq_getElem hl, Option.getD_some, s_K1b]
      cases s_K1 [s_K18 x.name p1[i].name, s_K1a x.v p1[i].v] == 0 with
      | true => exact eqF_b0 p0 p1 l (i + 1) (by simp at h; omega)
      | false => rfl
theorem eqF (p0 p1 : List Fld) : lcF p0 p1 = s_Kz_f46 s_K1b p0 p1 := by
  have h := eqF_b0 p0 p1 p0 0 (by simp)
  rw [List.drop_zero] at h
  rw [← h]
  unfold s_Kz_f46
  cases l_Kz_b0 s_K1b p0 p1 p0 0 <;> rfl
theorem e_K1a (p0 : Val) (p1 : Val) : s_K1a p0 p1 = ((s_K1 ([(s_K0 p0.kind p1.kind), (s_K0 p0.n p1.n), (s_K18 p0.s p1.s), (s_Ky_f17 s_K1a p0.list p1.list), (s_Kz_f46 s_K1b p0.fields p1.fields)]))) := by
  rw [s_K1a, eqV, eqF]
abbrev H_K1a (p0 : Val) : Prop := Val.Sm 4611686018427387904 p0
def Rec_K1a (p0 : Val) : Prop := ∀ (q : Val), SizeOf.sizeOf q < SizeOf.sizeOf p0 → ∀ (p1 : Val), H_K1a q → Tells G (c_K1a q p1) (a_K1a q p1)
theorem give_K1a (p0 : Val) (p1 : Val) (H : H_K1a p0) : (H_Ky_f17 s_K1a p0.list p1.list) ∧ (H_Kz_f46 s_K1b p0.fields p1.fields) ∧ True := by
  obtain ⟨h1, h2, h3, h4⟩ := H.all
  exact ⟨⟨⟨h1, trivial⟩, trivial⟩, ⟨⟨h2, trivial⟩, trivial⟩, trivial⟩
theorem r_K1a (p0 : Val) (p1 : Val) (H : H_K1a p0) (rec : Rec_K1a p0) : Tells G (c_K1a p0 p1) (a_K1a p0 p1) := by
  unfold a_K1a
  rw [e_K1a]
  exact tells_VI (fn := Ir.K1a) rfl VOK.nil [] [aN (t_K0 p0.kind p1.kind), aN (t_K0 p0.n p1.n), aN (t_K18 p0.s p1.s), aN (t_Ky_f17 s_K1a p0.list p1.list (give_K1a p0 p1 H).1 (fun x hx y => rec x (szM hx) y (H.all.2.2.1 x hx))), aN (t_Kz_f46 s_K1b p0.fields p1.fields (give_K1a p0 p1 H).2.1 (fun x hx y => t_K1b x y (rec x.v (szN hx) y.v (H.all.2.2.2 x hx)))), aN (t_K1 ([(s_K0 p0.kind p1.kind), (s_K0 p0.n p1.n), (s_K18 p0.s p1.s), (s_Ky_f17 s_K1a p0.list p1.list), (s_Kz_f46 s_K1b p0.fields p1.fields)]) (by simp [H_K1, H_K1_b0]))] (by kernel_rfl)
theorem i_K1a : ∀ (k : Nat) (p0 : Val), SizeOf.sizeOf p0 < k → ∀ (p1 : Val), H_K1a p0 → Tells G (c_K1a p0 p1) (a_K1a p0 p1)
  | 0, _, h, _, _ => absurd h (Nat.not_lt_zero _)
  | k + 1, p0, h, p1, H => r_K1a p0 p1 H (fun q hq p1 hH => i_K1a k q (by omega) p1 hH)
theorem t_K1a (p0 : Val) (p1 : Val) (H : H_K1a p0) : Tells G (c_K1a p0 p1) (a_K1a p0 p1) := i_K1a _ p0 (Nat.lt_succ_self _) p1 H
def s_K1d (p0 : Val) (p1 : Val) : Bool :=
  ((s_K1a p0 p1) == 0)
def c_K1d (p0 : Val) (p1 : Val) : En := .call 19 [.agg (Val.cells p0), .agg (Val.cells p1)] []
def a_K1d (p0 : Val) (p1 : Val) : Rs := .ret (.bool (s_K1d p0 p1)) []
def H_K1d (p0 : Val) (_p1 : Val) : Prop := (H_K1a p0) ∧ True
theorem t_K1d (p0 : Val) (p1 : Val) (H : H_K1d p0 p1) : Tells G (c_K1d p0 p1) (a_K1d p0 p1) := by
  unfold a_K1d s_K1d
  exact tells_VI (fn := Ir.K1d) rfl VOK.nil [] [aN (t_K1a p0 p1 H.1)] (by kernel_rfl)
end Go.Proofs.Ytedohmdgbilicaa
end

section
/- What the laws ValueValid, ValueCompares, ValueOrder compute (printed by a program). -/
namespace Go.Proofs.Ytedohmdgbilicaa
open Go.Pv
theorem t_K9 : Tells G (.call 10 [] []) (.ret (.bool true) []) := ⟨200, by kernel_rfl⟩
def s_K4 (p0 : Val) (p1 : Val) : Bool :=
  bif (s_Ka p0) then
    bif (s_Ka p1) then
      bif ((s_K1a p0 p1) == (s_Kc p0 p1)) then
        bif ((s_K1d p0 p1) == (s_Kf p0 p1)) then
          bif (s_K1d p0 p0) then
            true
          else
            false
        else
          false
      else
        false
    else
      true
  else
    true
def c_K4 (p0 : Val) (p1 : Val) : En := .call 4 [.agg (Val.cells p0), .agg (Val.cells p1)] []
def a_K4 (p0 : Val) (p1 : Val) : Rs := .ret (.bool (s_K4 p0 p1)) []
def H_K4 (p0 : Val) (p1 : Val) : Prop := (H_Ka p0) ∧ ((s_Ka p0) = true → H_Ka p1) ∧ ((s_Ka p0) = true → (s_Ka p1) = true → H_K1a p0) ∧ ((s_Ka p0) = true → (s_Ka p1) = true → H_Kc p0) ∧ ((s_Ka p0) = true → (s_Ka p1) = true → ((s_K1a p0 p1) == (s_Kc p0 p1)) = true → H_K1d p0 p1) ∧ ((s_Ka p0) = true → (s_Ka p1) = true → ((s_K1a p0 p1) == (s_Kc p0 p1)) = true → H_Kf p0 p1) ∧ ((s_Ka p0) = true → (s_Ka p1) = true → ((s_K1a p0 p1) == (s_Kc p0 p1)) = true → ((s_K1d p0 p1) == (s_Kf p0 p1)) = true → H_K1d p0 p0) ∧ True
theorem t_K4 (p0 : Val) (p1 : Val) (H : H_K4 p0 p1) : Tells G (c_K4 p0 p1) (a_K4 p0 p1) := by
  unfold a_K4 s_K4
  cases h0 : (s_Ka p0) with
  | true =>
   cases h1 : (s_Ka p1) with
   | true =>
    cases h2 : ((s_K1a p0 p1) == (s_Kc p0 p1)) with
    | true =>
     cases h3 : ((s_K1d p0 p1) == (s_Kf p0 p1)) with
     | true =>
      cases h4 : (s_K1d p0 p0) with
      | true =>
       exact tells_VI (fn := Ir.K4) rfl VOK.nil [hB 17 h2, hB 7 h3] [aB (t_Ka p0 (H.1)) h0, aB (t_Ka p1 (H.2.1 h0)) h1, aN (t_K1a p0 p1 (H.2.2.1 h0 h1)), aN (t_Kc p0 p1 (H.2.2.2.1 h0 h1)), aN (t_K1d p0 p1 (H.2.2.2.2.1 h0 h1 h2)), aN (t_Kf p0 p1 (H.2.2.2.2.2.1 h0 h1 h2)), aB (t_K1d p0 p0 (H.2.2.2.2.2.2.1 h0 h1 h2 h3)) h4, aN t_K9] (by kernel_rfl)
      | false =>
       exact tells_VI (fn := Ir.K4) rfl VOK.nil [hB 17 h2, hB 7 h3] [aB (t_Ka p0 (H.1)) h0, aB (t_Ka p1 (H.2.1 h0)) h1, aN (t_K1a p0 p1 (H.2.2.1 h0 h1)), aN (t_Kc p0 p1 (H.2.2.2.1 h0 h1)), aN (t_K1d p0 p1 (H.2.2.2.2.1 h0 h1 h2)), aN (t_Kf p0 p1 (H.2.2.2.2.2.1 h0 h1 h2)), aB (t_K1d p0 p0 (H.2.2.2.2.2.2.1 h0 h1 h2 h3)) h4] (by kernel_rfl)
     | false =>
      exact tells_VI (fn := Ir.K4) rfl VOK.nil [hB 17 h2, hB 7 h3] [aB (t_Ka p0 (H.1)) h0, aB (t_Ka p1 (H.2.1 h0)) h1, aN (t_K1a p0 p1 (H.2.2.1 h0 h1)), aN (t_Kc p0 p1 (H.2.2.2.1 h0 h1)), aN (t_K1d p0 p1 (H.2.2.2.2.1 h0 h1 h2)), aN (t_Kf p0 p1 (H.2.2.2.2.2.1 h0 h1 h2))] (by kernel_rfl)
    | false =>
     exact tells_VI (fn := Ir.K4) rfl VOK.nil [hB 17 h2] [aB (t_Ka p0 (H.1)) h0, aB (t_Ka p1 (H.2.1 h0)) h1, aN (t_K1a p0 p1 (H.2.2.1 h0 h1)), aN (t_Kc p0 p1 (H.2.2.2.1 h0 h1))] (by kernel_rfl)
   | false =>
    exact tells_VI (fn := Ir.K4) rfl VOK.nil [] [aB (t_Ka p0 (H.1)) h0, aB (t_Ka p1 (H.2.1 h0)) h1, aN t_K9] (by kernel_rfl)
  | false =>
   exact tells_VI (fn := Ir.K4) rfl VOK.nil [] [aB (t_Ka p0 (H.1)) h0, aN t_K9] (by kernel_rfl)
def tysValueCompares : List Ty := [.nm 25, .nm 25]
theorem pureValueCompares (hp : ∀ (p0 : Val) (p1 : Val), Val_ok p0 → Val_ok p1 → H_K4 p0 p1 ∧ s_K4 p0 p1 = true) : ∀ qs, Args Γ tysValueCompares qs → ∃ n, runs G n (.call 4 qs []) = some (.ret (.bool true) []) := by
  intro qs h
  cases qs with
  | nil => cases h
  | cons q0 qs =>
  obtain ⟨h0, h⟩ := h
  cases qs with
  | nil => cases h
  | cons q1 qs =>
  obtain ⟨h1, h⟩ := h
  cases qs with
  | cons _ _ => cases h
  | nil =>
  obtain ⟨c0, rfl, g0⟩ := h0.agg rfl
  obtain ⟨p0, rfl, k0⟩ := (Val_open (gam_at 25) g0)
  obtain ⟨c1, rfl, g1⟩ := h1.agg rfl
  obtain ⟨p1, rfl, k1⟩ := (Val_open (gam_at 25) g1)
  have e := hp p0 p1 k0 k1
  have t := t_K4 p0 p1 e.1
  unfold a_K4 at t
  rw [e.2] at t
  exact t
end Go.Proofs.Ytedohmdgbilicaa
end

section
/- Comparisons that answer -1, 0 or 1; the order of strings. -/
namespace Go.Pv
def R3 (a : Int) : Prop := a = -1 ∨ a = 0 ∨ a = 1
def lx (a b : Int) : Int := if a = 0 then b else a
def icmp (a b : Int) : Int := if a < b then -1 else if b < a then 1 else 0
theorem lx_neg (a b : Int) : lx (-a) (-b) = -lx a b := by
  unfold lx
  split <;> split <;> omega
theorem icmp_neg (a b : Int) : icmp b a = -icmp a b := by
  unfold icmp
  split <;> split <;> first | omega | (split <;> omega) | skip
  all_goals omega
theorem icmp_zero {a b : Int} : icmp a b = 0 ↔ a = b := by
  unfold icmp
  constructor
  · intro h
    split at h
    · omega
    · split at h <;> omega
  · intro h
    rw [if_neg (by omega), if_neg (by omega)]
theorem cmpL_r3 : ∀ a b : List UInt8, R3 (cmpL a b)
  | [], [] => Or.inr (Or.inl rfl)
  | [], _ :: _ => Or.inl rfl
  | _ :: _, [] => Or.inr (Or.inr rfl)
  | x :: a, y :: b => by
    rw [cmpL]
    split
    · exact Or.inl rfl
    · split
      · exact Or.inr (Or.inr rfl)
      · exact cmpL_r3 a b
theorem cmpL_step (x y : UInt8) (a b : List UInt8) : cmpL (x :: a) (y :: b) = lx (icmp (x.toNat : Int) (y.toNat : Int)) (cmpL a b) := by
  rw [cmpL]
  unfold lx icmp
  simp only [UInt8.lt_iff_toNat_lt]
  by_cases h1 : x.toNat < y.toNat
  · rw [if_pos h1, if_pos (show (x.toNat : Int) < (y.toNat : Int) by omega)]
    rfl
  · by_cases h2 : y.toNat < x.toNat
    · rw [if_neg h1, if_pos h2, if_neg (show ¬ (x.toNat : Int) < (y.toNat : Int) by omega), if_pos (show (y.toNat : Int) < (x.toNat : Int) by omega)]
      rfl
    · rw [if_neg h1, if_neg h2, if_neg (show ¬ (x.toNat : Int) < (y.toNat : Int) by omega), if_neg (show ¬ (y.toNat : Int) < (x.toNat : Int) by omega)]
      rfl
theorem cmpL_neg : ∀ a b : List UInt8, cmpL b a = -cmpL a b
  | [], [] => rfl
  | [], _ :: _ => rfl
  | _ :: _, [] => rfl
  | x :: a, y :: b => by rw [cmpL_step, cmpL_step, cmpL_neg a b, icmp_neg (x.toNat : Int) (y.toNat : Int), lx_neg]
theorem cmpL_zero : ∀ a b : List UInt8, cmpL a b = 0 → a = b
  | [], [], _ => rfl
  | [], _ :: _, h => by simp [cmpL] at h
  | _ :: _, [], h => by simp [cmpL] at h
  | x :: a, y :: b, h => by
    rw [cmpL_step] at h
    unfold lx at h
    split at h
    · rename_i e
      have := icmp_zero.1 e
      rw [UInt8.toNat_inj.1 (show x.toNat = y.toNat by omega), cmpL_zero a b h]
    · omega
theorem cmpL_self (a : List UInt8) : cmpL a a = 0 := by
  have := cmpL_neg a a
  omega
theorem less_cmp : ∀ a b : List UInt8, Op.bytesLess a b = decide (cmpL a b < 0)
  | [], [] => rfl
  | [], _ :: _ => rfl
  | _ :: _, [] => rfl
  | x :: a, y :: b => by
    have ih := less_cmp a b
    rw [Op.bytesLess, cmpL, ih]
    by_cases h : x < y
    · simp [h]
    · by_cases h2 : y < x
      · have h3 : ¬ x = y := fun e => h (e ▸ h2)
        simp [h, h2, h3]
      · have h3 : x = y := by
          rw [UInt8.lt_iff_toNat_lt] at h h2
          exact UInt8.toNat_inj.1 (by omega)
        simp [h3]
theorem sCmp_r3 (a b : ByteArray) : R3 (sCmp a b) := cmpL_r3 _ _
theorem sCmp_neg (a b : ByteArray) : sCmp b a = -sCmp a b := cmpL_neg _ _
theorem sCmp_zero {a b : ByteArray} : sCmp a b = 0 ↔ a = b := ⟨fun h => toList_inj (cmpL_zero _ _ h), fun h => by rw [h]; exact cmpL_self _⟩
theorem sLt_cmp (a b : ByteArray) : sLt a b = decide (sCmp a b < 0) := less_cmp _ _
theorem sEq_cmp (a b : ByteArray) : sEq a b = decide (sCmp a b = 0) := by
  rw [sEq_dec]
  simp only [sCmp_zero]
/-- the order of an order's answers: -1, 0, 1 -/
theorem sCmp_of (a b : ByteArray) : sCmp a b = if sLt a b = true then -1 else if (!(sLt a b || sEq a b)) = true then 1 else 0 := by
  rw [sLt_cmp, sEq_cmp]
  have := sCmp_r3 a b
  unfold R3 at this
  rcases this with h | h | h <;> rw [h] <;> rfl
end Go.Pv
end

section
/- Values in plain words: sizes, depths and validity agree; comparisons agree and are orders. -/
namespace Go.Proofs.Ytedohmdgbilicaa
open Go.Pv
theorem vind {P : Val → Prop} (h : ∀ v : Val, (∀ x ∈ v.list, P x) → (∀ f ∈ v.fields, P f.v) → P v) : ∀ v, P v := by
  have key : ∀ (k : Nat) (v : Val), SizeOf.sizeOf v < k → P v := by
    intro k
    induction k with
    | zero => intro v hv; exact absurd hv (Nat.not_lt_zero _)
    | succ k ih => intro v hv; exact h v (fun x hx => ih x (by have := szM hx; omega)) (fun f hf => ih f.v (by have := szN hf; omega))
  exact fun v => key _ v (Nat.lt_succ_self _)
theorem smallH (v : Val) (h : Val_ok v) : H_Ka v := ⟨⟨h.sm, trivial⟩, trivial⟩
def orL : List Int → Int
  | [] => 0
  | a :: l => lx a (orL l)
theorem or_b0 (p : List Int) : ∀ (l : List Int) (i : Nat), (match l_K1_b0 p l i 0 with | .k0 y => y | .k1 y => y) = orL l
  | [], _ => rfl
  | a :: l, i => by
    rw [l_K1_b0, orL]
    unfold lx
    by_cases h : a = 0
    · rw [show (a == 0) = true by simpa using h, cond_true, if_pos h]
      exact or_b0 p l (i + 1)
    · rw [show (a == 0) = false by simpa using h, cond_false, if_neg h]
theorem or_eq (l : List Int) : s_K1 l = orL l := by
  rw [← or_b0 l l 0]
  rfl
theorem lx0 (a : Int) : lx a 0 = a := by
  unfold lx
  split <;> omega
theorem comp_eq (a b : Int) : s_K0 a b = icmp a b := by
  unfold s_K0 s_K2 icmp
  simp only [beq_self_eq_true, Bool.not_true, cond_false]
  by_cases h1 : a < b
  · rw [show decide (a < b) = true by simpa using h1, if_pos h1]
    rfl
  · rw [show decide (a < b) = false by simpa using h1, if_neg h1]
    by_cases h2 : b < a
    · rw [show decide (b < a) = true by simpa using h2, if_pos h2]
      rfl
    · rw [show decide (b < a) = false by simpa using h2, if_neg h2]
      rfl
theorem order_int (a b : Int) : s_Kt (decide (a < b)) (decide (b < a)) = icmp a b := by
  unfold s_Kt icmp
  by_cases h1 : a < b
  · rw [show decide (a < b) = true by simpa using h1, if_pos h1]
    cases decide (b < a) <;> rfl
  · rw [show decide (a < b) = false by simpa using h1, if_neg h1]
    by_cases h2 : b < a
    · rw [show decide (b < a) = true by simpa using h2, if_pos h2]
      rfl
    · rw [show decide (b < a) = false by simpa using h2, if_neg h2]
      rfl
theorem order_str (a b : ByteArray) : s_Kt (sLt a b) (!(sLt a b || sEq a b)) = sCmp a b := by
  rw [sCmp_of]
  unfold s_Kt
  cases sLt a b <;> cases sEq a b <;> rfl
theorem vcmp (a b : Val) : s_K1a a b = lx (icmp a.kind b.kind) (lx (icmp a.n b.n) (lx (sCmp a.s b.s) (lx (lcV a.list b.list) (lcF a.fields b.fields)))) := by
  rw [s_K1a, or_eq, comp_eq, comp_eq]
  show lx _ (lx _ (lx _ (lx _ (lx _ 0)))) = _
  rw [lx0]
  rfl
theorem fcmp (x y : Fld) : s_K1 [s_K18 x.name y.name, s_K1a x.v y.v] = lx (sCmp x.name y.name) (s_K1a x.v y.v) := by
  rw [or_eq]
  show lx _ (lx _ 0) = _
  rw [lx0]
  rfl
theorem lcV_cons (x y : Val) (l m : List Val) : lcV (x :: l) (y :: m) = lx (s_K1a x y) (lcV l m) := by
  rw [lcV]
  unfold lx
  by_cases h : s_K1a x y = 0
  · rw [show (s_K1a x y == 0) = true by simpa using h, cond_true, if_pos h]
  · rw [show (s_K1a x y == 0) = false by simpa using h, cond_false, if_neg h]
theorem lcF_cons (x y : Fld) (l m : List Fld) : lcF (x :: l) (y :: m) = lx (lx (sCmp x.name y.name) (s_K1a x.v y.v)) (lcF l m) := by
  rw [lcF, fcmp]
  generalize lx (sCmp x.name y.name) (s_K1a x.v y.v) = c
  unfold lx
  by_cases h : c = 0
  · rw [show (c == 0) = true by simpa using h, cond_true, if_pos h]
  · rw [show (c == 0) = false by simpa using h, cond_false, if_neg h]
theorem lcV_n1 (y : Val) (m : List Val) : lcV [] (y :: m) = -1 := by rw [lcV]
theorem lcV_n2 (x : Val) (l : List Val) : lcV (x :: l) [] = 1 := by rw [lcV]
theorem lcV_nn : lcV [] [] = 0 := by rw [lcV]
theorem lcF_n1 (y : Fld) (m : List Fld) : lcF [] (y :: m) = -1 := by rw [lcF]
theorem lcF_n2 (x : Fld) (l : List Fld) : lcF (x :: l) [] = 1 := by rw [lcF]
theorem lcF_nn : lcF [] [] = 0 := by rw [lcF]
theorem lcV_neg : ∀ (l m : List Val), (∀ x ∈ l, ∀ y, s_K1a y x = -s_K1a x y) → lcV m l = -lcV l m
  | [], [], _ => by rw [lcV_nn]; rfl
  | [], _ :: _, _ => by rw [lcV_n1, lcV_n2]; rfl
  | _ :: _, [], _ => by rw [lcV_n1, lcV_n2]
  | x :: l, y :: m, h => by rw [lcV_cons, lcV_cons, h x List.mem_cons_self y, lcV_neg l m fun z hz => h z (List.mem_cons_of_mem _ hz), lx_neg]
theorem lcF_neg : ∀ (l m : List Fld), (∀ x ∈ l, ∀ y, s_K1a y x.v = -s_K1a x.v y) → lcF m l = -lcF l m
  | [], [], _ => by rw [lcF_nn]; rfl
  | [], _ :: _, _ => by rw [lcF_n1, lcF_n2]; rfl
  | _ :: _, [], _ => by rw [lcF_n1, lcF_n2]
  | x :: l, y :: m, h => by rw [lcF_cons, lcF_cons, h x List.mem_cons_self y.v, sCmp_neg x.name y.name, lx_neg, lcF_neg l m fun z hz => h z (List.mem_cons_of_mem _ hz), lx_neg]
theorem cmp_neg : ∀ a b : Val, s_K1a b a = -s_K1a a b := vind fun a h1 h2 b => by
  rw [vcmp, vcmp, icmp_neg a.kind b.kind, icmp_neg a.n b.n, sCmp_neg a.s b.s, lcV_neg _ _ h1, lcF_neg _ _ h2, lx_neg, lx_neg, lx_neg, lx_neg]
theorem cmp_self (a : Val) : s_K1a a a = 0 := by
  have := cmp_neg a a
  omega
theorem equal_iff (a b : Val) : s_K1d a b = (s_K1a a b == 0) := rfl
theorem lx_assoc (a b c : Int) : lx (lx a b) c = lx a (lx b c) := by
  unfold lx
  by_cases h : a = 0
  · rw [if_pos h, if_pos h]
  · rw [if_neg h, if_neg h, if_neg h]
theorem bz (x y : Int) : (bif (x == 0) then y else x) = lx x y := by
  unfold lx
  by_cases h : x = 0
  · rw [show (x == 0) = true by simpa using h, if_pos h]
    rfl
  · rw [show (x == 0) = false by simpa using h, if_neg h]
    rfl
theorem bz3 (x y z : Int) : (bif (x == 0) then y else lx x z) = lx x y := by
  unfold lx
  by_cases h : x = 0
  · rw [show (x == 0) = true by simpa using h, if_pos h, if_pos h]
    rfl
  · rw [show (x == 0) = false by simpa using h, if_neg h, if_neg h]
    rfl
theorem lx_ne {a : Int} (h : a ≠ 0) (b : Int) : lx a b = a := by
  unfold lx
  rw [if_neg h]
theorem lx_z (b : Int) : lx 0 b = b := rfl
theorem rb0_ne (a b : Val) {c : Int} (h : c ≠ 0) : ∀ (l : List Val) (i : Nat), l_Kc_b0 a b l i c = c
  | [], i => by rw [l_Kc_b0]
  | x :: l, i => by
    rw [l_Kc_b0, show (c == 0) = false by simpa using h]
    cases decide ((i : Int) < ((b.list.length : Nat) : Int)) <;> rfl
theorem rb1_ne (a b : Val) {c : Int} (h : c ≠ 0) : ∀ (l : List Fld) (i : Nat), l_Kc_b1 a b l i c = c
  | [], i => by rw [l_Kc_b1]
  | x :: l, i => by
    rw [l_Kc_b1, show (c == 0) = false by simpa using h]
    cases decide ((i : Int) < ((b.fields.length : Nat) : Int)) <;> rfl
theorem getV (b : List Val) (i : Nat) (h : i < b.length) (z : Val) : b.getD i z = b[i] := by rw [List.getD_eq_getElem?_getD, List.getElem?_eq_getElem h]; rfl
theorem getF (b : List Fld) (i : Nat) (h : i < b.length) (z : Fld) : b.getD i z = b[i] := by rw [List.getD_eq_getElem?_getD, List.getElem?_eq_getElem h]; rfl
theorem rb0 (a b : Val) : ∀ (l : List Val) (i : Nat), i ≤ b.list.length → (∀ x ∈ l, ∀ y, s_Kc x y = s_K1a x y) →
    lx (l_Kc_b0 a b l i 0) (icmp ((i + l.length : Nat) : Int) ((b.list.length : Nat) : Int)) = lcV l (b.list.drop i)
  | [], i, hi, _ => by
    rw [l_Kc_b0, lx_z]
    unfold icmp
    by_cases h : i < b.list.length
    · rw [List.drop_eq_getElem_cons h, lcV_n1, if_pos (by simp; omega)]
    · rw [List.drop_eq_nil_of_le (by omega), lcV_nn, if_neg (by simp; omega), if_neg (by simp; omega)]
  | x :: l, i, hi, h => by
    rw [l_Kc_b0]
    by_cases hb : i < b.list.length
    · rw [show decide ((i : Int) < ((b.list.length : Nat) : Int)) = true by simpa using hb, cond_true, show ((0 : Int) == 0) = true from rfl, cond_true, getV _ _ hb, h x List.mem_cons_self, List.drop_eq_getElem_cons hb, lcV_cons]
      have ih := rb0 a b l (i + 1) hb (fun y hy => h y (List.mem_cons_of_mem _ hy))
      by_cases hc : s_K1a x b.list[i] = 0
      · rw [hc, lx_z, ← ih, show i + (x :: l).length = i + 1 + l.length by rw [List.length_cons]; omega]
      · rw [rb0_ne a b hc, lx_ne hc, lx_ne hc]
    · rw [show decide ((i : Int) < ((b.list.length : Nat) : Int)) = false by simpa using hb, cond_false, lx_z, List.drop_eq_nil_of_le (by omega), lcV_n2]
      unfold icmp
      rw [if_neg (by rw [List.length_cons]; omega), if_pos (by rw [List.length_cons]; omega)]
theorem rb1 (a b : Val) : ∀ (l : List Fld) (i : Nat), i ≤ b.fields.length → (∀ x ∈ l, ∀ y, s_Kc x.v y = s_K1a x.v y) →
    lx (l_Kc_b1 a b l i 0) (icmp ((i + l.length : Nat) : Int) ((b.fields.length : Nat) : Int)) = lcF l (b.fields.drop i)
  | [], i, hi, _ => by
    rw [l_Kc_b1, lx_z]
    unfold icmp
    by_cases h : i < b.fields.length
    · rw [List.drop_eq_getElem_cons h, lcF_n1, if_pos (by simp; omega)]
    · rw [List.drop_eq_nil_of_le (by omega), lcF_nn, if_neg (by simp; omega), if_neg (by simp; omega)]
  | x :: l, i, hi, h => by
    rw [l_Kc_b1]
    by_cases hb : i < b.fields.length
    · rw [show decide ((i : Int) < ((b.fields.length : Nat) : Int)) = true by simpa using hb, cond_true, show ((0 : Int) == 0) = true from rfl, cond_true, getF _ _ hb, h x List.mem_cons_self, List.drop_eq_getElem_cons hb, lcF_cons, order_str]
      have ih := rb1 a b l (i + 1) hb (fun y hy => h y (List.mem_cons_of_mem _ hy))
      by_cases hs : sCmp x.name b.fields[i].name = 0
      · rw [show (sCmp x.name b.fields[i].name == 0) = true by simpa using hs, cond_true, hs, lx_z]
        by_cases hc : s_K1a x.v b.fields[i].v = 0
        · rw [hc, lx_z, ← ih, show i + (x :: l).length = i + 1 + l.length by rw [List.length_cons]; omega]
        · rw [rb1_ne a b hc, lx_ne hc, lx_ne hc]
      · rw [show (sCmp x.name b.fields[i].name == 0) = false by simpa using hs, cond_false, rb1_ne a b hs, lx_ne hs, lx_ne hs, lx_ne hs]
    · rw [show decide ((i : Int) < ((b.fields.length : Nat) : Int)) = false by simpa using hb, cond_false, lx_z, List.drop_eq_nil_of_le (by omega), lcF_n2]
      unfold icmp
      rw [if_neg (by rw [List.length_cons]; omega), if_pos (by rw [List.length_cons]; omega)]
theorem ref_eq : ∀ a b : Val, s_Kc a b = s_K1a a b := vind fun a h1 h2 b => by
  have P0 : ∀ c, lx (l_Kc_b0 a b a.list 0 c) (icmp ((a.list.length : Nat) : Int) ((b.list.length : Nat) : Int)) = lx c (lcV a.list b.list) := fun c => by
    by_cases h : c = 0
    · have := rb0 a b a.list 0 (Nat.zero_le _) h1
      rw [Nat.zero_add, List.drop_zero] at this
      rw [h, this, lx_z]
    · rw [rb0_ne a b h, lx_ne h, lx_ne h]
  have P1 : ∀ c, lx (l_Kc_b1 a b a.fields 0 c) (icmp ((a.fields.length : Nat) : Int) ((b.fields.length : Nat) : Int)) = lx c (lcF a.fields b.fields) := fun c => by
    by_cases h : c = 0
    · have := rb1 a b a.fields 0 (Nat.zero_le _) h2
      rw [Nat.zero_add, List.drop_zero] at this
      rw [h, this, lx_z]
    · rw [rb1_ne a b h, lx_ne h, lx_ne h]
  rw [s_Kc, vcmp]
  simp only [order_int, order_str, bz, P1, bz3, ← lx_assoc, P0]
  simp only [lx_assoc, bz3]
theorem requal_eq (a b : Val) : s_Kf a b = s_K1d a b := by
  unfold s_Kf
  rw [ref_eq]
  rfl
theorem compares_holds (a b : Val) (ha : Val_ok a) (hb : Val_ok b) : H_K4 a b ∧ s_K4 a b = true := by
  refine ⟨⟨smallH a ha, fun _ => smallH b hb, fun _ _ => ha.sm, fun _ _ => ha.sm, fun _ _ _ => ⟨ha.sm, trivial⟩, fun _ _ _ => ⟨ha.sm, trivial⟩, fun _ _ _ _ => ⟨ha.sm, trivial⟩, trivial⟩, ?_⟩
  unfold s_K4
  rw [ref_eq, requal_eq, equal_iff a a, cmp_self]
  cases s_Ka a <;> cases s_Ka b <;> simp
end Go.Proofs.Ytedohmdgbilicaa
end

section
/- The library's comparison of two strings, walked: it answers as the evaluator's cmpL. -/
namespace Go.Proofs.Ytedohmdgbilicaa
open Go.Pv
theorem cmpL_eq : ∀ (a b : List UInt8), cmpL a b = Lib.compareBytes a b
  | [], [] => rfl
  | [], _ :: _ => rfl
  | _ :: _, [] => rfl
  | a :: x, b :: y => by
    rw [Lib.compareBytes, ← cmpL_eq x y]
    rfl
set_option maxHeartbeats 1000000 in
set_option maxRecDepth 100000 in
theorem comparing (a b : ByteArray) (w : World) :
    Calls Try.prog 62 #[.string a, .string b] w fun e w' => e = .returned (.int .i64 (Lib.compareBytes a.data.toList b.data.toList)) ∧ w' = w := by
  go_enter Try.func62, Try.ntmps62
  go_wp2
  rw [run_callFunc_extern Try.func69 (by kernel_rfl) (by kernel_rfl) (by kernel_rfl) (e := Extern.BytealgCompare.compare) (by kernel_rfl), Lib.run_compareString]
  simp only [Result.andThen]
  rw [Oper.upon_value]
  go_wp2
  go_ret
  exact ⟨rfl, rfl⟩
theorem cmpOK : CmpOK Try.prog 62 := by
  refine ⟨⟨_, Try.func62, by kernel_rfl, by kernel_rfl⟩, fun x y w => ?_⟩
  have h := comparing x y w
  rw [← cmpL_eq, ← toList_data, ← toList_data] at h
  exact h
end Go.Proofs.Ytedohmdgbilicaa
end

