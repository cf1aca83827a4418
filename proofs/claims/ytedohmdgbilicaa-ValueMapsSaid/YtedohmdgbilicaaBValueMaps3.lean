/- Texts of the claim, merged by a program; what the statement does not reach is left out. -/
import Derived.Test.YtedohmdgbilicaaBValueMaps2
import Derived.KernelRfl
import Derived.OpenShut
import Derived.ChangeArms
import Derived.ChangeSlices
import Derived.ChangeOld
import Derived.Carry
import GoSem.ClaimJoined

section
/-
  Runs along a trace, over views: operations, regions, code, calls, loops' rounds.
-/
namespace Go.Pv
def Seen (o : Option Ob) (rows : List (List PV)) : Prop := ∃ ob, o = some ob ∧ ViewOK ob.sz ob.cells rows
theorem seenV {ob : Ob} {rows : List (List PV)} (h : ViewOK ob.sz ob.cells rows) : Seen (some ob) rows := ⟨ob, rfl, h⟩
def putV (vw : Views) (cut : List Nat) (new : Views) : Views := new ++ vw.filter fun x => !(has cut x.1)
theorem look_filter {vw : Views} {cut : List Nat} {id : Nat} {rows : List (List PV)} (h : look (vw.filter fun x => !(has cut x.1)) id = some rows) : look vw id = some rows ∧ has cut id = false := by
  induction vw with
  | nil => cases h
  | cons x r ih =>
    obtain ⟨k, rs⟩ := x
    simp only [List.filter_cons] at h
    cases hc : has cut k with
    | true =>
      rw [hc] at h
      simp only [Bool.not_true, Bool.false_eq_true, if_false] at h
      obtain ⟨h1, h2⟩ := ih h
      refine ⟨?_, h2⟩
      simp only [look]
      cases c : Nat.beq k id with
      | true =>
        have := Nat.eq_of_beq_eq_true c
        subst this
        rw [hc] at h2
        cases h2
      | false => exact h1
    | false =>
      rw [hc] at h
      simp only [Bool.not_false, if_true, look] at h ⊢
      cases c : Nat.beq k id with
      | true =>
        rw [c] at h
        have := Nat.eq_of_beq_eq_true c
        subst this
        exact ⟨h, hc⟩
      | false =>
        rw [c] at h
        exact ih h
theorem has_false {l : List Nat} {id : Nat} (h : has l id = false) : id ∉ l := by
  induction l with
  | nil => exact List.not_mem_nil
  | cons k r ih =>
    simp only [has] at h
    cases c : Nat.beq k id with
    | true => rw [c] at h; cases h
    | false =>
      rw [c] at h
      simp only [cond_false] at h
      intro hm
      rcases List.mem_cons.1 hm with rfl | hm
      · simp at c
      · exact ih h hm
theorem putV_look {vw new : Views} {cut : List Nat} {id : Nat} {rows : List (List PV)} (h : look (putV vw cut new) id = some rows) : look new id = some rows ∨ (look vw id = some rows ∧ id ∉ cut) := by
  unfold putV at h
  rw [look_app] at h
  cases hn : look new id with
  | some r => rw [hn] at h; exact .inl h
  | none =>
    rw [hn] at h
    obtain ⟨h1, h2⟩ := look_filter h
    exact .inr ⟨h1, has_false h2⟩
theorem look_in {α : Type} {l : List (Nat × α)} {id : Nat} {x : α} (h : look l id = some x) : (id, x) ∈ l := by
  induction l with
  | nil => cases h
  | cons y r ih =>
    obtain ⟨k, z⟩ := y
    simp only [look] at h
    cases c : Nat.beq k id with
    | true =>
      rw [c] at h
      have := Nat.eq_of_beq_eq_true c
      subst this
      simp only [cond_true, Option.some.injEq] at h
      subst h
      exact List.mem_cons_self
    | false =>
      rw [c] at h
      exact List.mem_cons_of_mem _ (ih h)
/-- an operation keeps the views: those that end are told, those that begin are seen -/
def Turned (H : Nat → Option Ob) (vw : Views) (e : EV) : Prop := VOK (upH H e.eff.hw) (putV vw e.cut e.new)
theorem upH_once {ws : List (Nat × Option Ob)} {H : Nat → Option Ob} {id : Nat} {o : Option Ob} (hn : (ws.map (·.1)).Nodup) (h : (id, o) ∈ ws) : upH H ws id = o := by
  induction ws generalizing H with
  | nil => cases h
  | cons x r ih =>
    obtain ⟨k, z⟩ := x
    simp only [List.map_cons, List.nodup_cons] at hn
    rw [upH]
    rcases List.mem_cons.1 h with e | h
    · injection e with e1 e2
      subst e1 e2
      rw [upH_not (fun y hy e => hn.1 (by rw [← e]; exact List.mem_map_of_mem hy))]
      simp
    · exact ih hn.2 h
def nodupB : List Nat → Bool
  | [] => true
  | k :: r => !(has r k) && nodupB r
theorem nodupB_ok : ∀ {l : List Nat}, nodupB l = true → l.Nodup
  | [], _ => List.nodup_nil
  | k :: r, h => by
    simp only [nodupB, Bool.and_eq_true, Bool.not_eq_true'] at h
    exact List.nodup_cons.2 ⟨has_false h.1, nodupB_ok h.2⟩
theorem shut_same {H : Nat → Option Ob} : ∀ (l : List Nat) (cl : List (Nat × Option Ob)), shut H l = some cl → ∀ id o, (id, o) ∈ cl → ∃ ob ob', H id = some ob ∧ o = some ob' ∧ ob'.sz = ob.sz ∧ ob'.cells = ob.cells
  | [], cl, h, id, o, hm => by
    simp only [shut, Option.some.injEq] at h
    subst h
    cases hm
  | k :: r, cl, h, id, o, hm => by
    simp only [shut] at h
    obtain ⟨ob, hob, h⟩ := obind_some h
    obtain ⟨m, hm', h⟩ := obind_some h
    simp only [Option.some.injEq] at h
    subst h
    rcases List.mem_cons.1 hm with e | hm
    · injection e with e1 e2
      subst e1 e2
      exact ⟨ob, _, hob, rfl, rfl, rfl⟩
    · exact shut_same r m hm' id o hm
def icallW (H : Nat → Option Ob) (vw : Views) (fr : Nat) (byRef : Bool) (f : Nat) (args : List PV) (az : List Ans) : Option EV :=
  (icallV H vw fr byRef f args az).bind fun e => bif nodupB (e.eff.hw.map (·.1)) then some e else none
theorem icallV_sound {G : Nat → Option Fun} {H : Nat → Option Ob} {vw : Views} (hv : VOK H vw) {fr : Nat} {byRef : Bool} {f : Nat} {args : List PV} {az : List Ans} {e : EV} (h : icallW H vw fr byRef f args az = some e) (hm : Met e.owed) (hq : Told G e.asked) : icall (lim G) H fr byRef f args = some e.eff ∧ Turned H vw e := by
  unfold icallW at h
  obtain ⟨e', h0, h'⟩ := obind_some h
  clear h
  cases hnd : nodupB (e'.eff.hw.map (·.1)) with
  | false => rw [hnd] at h'; cases h'
  | true =>
  rw [hnd] at h'
  simp only [cond_true, Option.some.injEq] at h'
  subst h'
  have hnd := nodupB_ok hnd
  unfold icallV at h0
  unfold icall
  obtain ⟨y, hy, h⟩ := obind_some h0
  clear h0
  obtain ⟨z, hz, h⟩ := obind_some h
  simp only at h
  cases hd : disj (y.1.2.2 ++ z.1.2.2) z.1.2.1 with
  | false => rw [hd] at h; cases h
  | true =>
    rw [hd] at h
    simp only [cond_true] at h
    cases az with
    | nil => cases h
    | cons a az' =>
      obtain ⟨r, avw⟩ := a
      cases r with
      | st _ _ => cases h
      | ret v hh =>
        simp only at h
        cases hb : (Nat.ble z.1.2.1.length hh.length && Nat.ble (hh.length - z.1.2.1.length) 64) with
        | false => rw [hb] at h; cases h
        | true =>
          rw [hb] at h
          simp only [cond_true] at h
          obtain ⟨v', hv', h⟩ := obind_some h
          obtain ⟨ws, hws, h⟩ := obind_some h
          have key : ∀ (hy' : Met y.2) (hz' : Met z.2) (hw' : Met ws.2.1) (ht : Tells G (.call f y.1.1 z.1.1) (.ret v hh)) (E : Eff),
              (bif flat 8 v && hh.all (fun ob => ob.cells.all (flat 8)) then some ⟨v', ws.1, z.1.2.1 ++ (y.1.2.2 ++ z.1.2.2)⟩ else (shut H (y.1.2.2 ++ z.1.2.2)).bind fun cl => some ⟨v', ws.1 ++ cl, z.1.2.1 ++ (y.1.2.2 ++ z.1.2.2)⟩) = some E →
              ((passL (pass H byRef 8) args []).bind fun y => (passObs H false false 16 0 y.2.1).bind fun z =>
                let ids := z.2.1
                let lent := y.2.2 ++ z.2.2
                bif disj lent ids then
                  (lim G (.call f y.1 z.1)).bind fun r =>
                    match r with
                    | .ret v h =>
                      bif Nat.ble ids.length h.length && Nat.ble (h.length - ids.length) 64 then
                        (back (ren ids fr) 8 v).bind fun v' => (backObs (ren ids fr) 0 h).bind fun ws =>
                          bif flat 8 v && h.all (fun ob => ob.cells.all (flat 8)) then some ⟨v', ws, ids ++ lent⟩
                          else (shut H lent).bind fun cl => some ⟨v', ws ++ cl, ids ++ lent⟩
                      else none
                    | _ => none
                else none) = some E := by
            intro hy' hz' hw' ht E hE
            rw [passLV_sound (passV_sound hv 8) _ _ y hy hy', Option.bind_some, passObsV_sound hv 16 _ _ z hz hz', Option.bind_some]
            simp only
            rw [hd]
            simp only [cond_true]
            rw [lim_of ht, Option.bind_some]
            simp only
            rw [hb]
            simp only [cond_true]
            rw [hv', Option.bind_some, backObsV_sound hh 0 ws hws hw', Option.bind_some]
            exact hE
          have turn : ∀ (cl : List (Nat × Option Ob)) (hcl : ∀ id o, (id, o) ∈ cl → ∃ ob ob', H id = some ob ∧ o = some ob' ∧ ob'.sz = ob.sz ∧ ob'.cells = ob.cells) (hn : ((ws.1 ++ cl).map (·.1)).Nodup) (hw' : Met ws.2.1) , VOK (upH H (ws.1 ++ cl)) (putV vw (ws.1.map (·.1)) ws.2.2) := by
            intro cl hcl hn hw' id rows hl
            rcases putV_look hl with hl | ⟨hl, hc⟩
            · obtain ⟨ob, hob, hok⟩ := backObsV_views hh 0 ws hws hw' id rows (look_in hl)
              exact ⟨ob, upH_once hn (List.mem_append_left _ hob), hok⟩
            · obtain ⟨ob, hob, hok⟩ := hv id rows hl
              by_cases hx : ∃ o, (id, o) ∈ cl
              · obtain ⟨o, ho⟩ := hx
                obtain ⟨ob1, ob', h1, rfl, h2, h3⟩ := hcl id o ho
                rw [hob] at h1
                injection h1 with h1
                subst h1
                refine ⟨ob', upH_once hn (List.mem_append_right _ ho), ?_⟩
                rw [h2, h3]
                exact hok
              · refine ⟨ob, ?_, hok⟩
                rw [upH_not (fun y hy e => ?_)]
                · exact hob
                · rcases List.mem_append.1 hy with hy | hy
                  · exact hc (by rw [← e]; exact List.mem_map_of_mem hy)
                  · exact hx ⟨y.2, by rw [← e]; exact hy⟩
          cases hlent : y.1.2.2 ++ z.1.2.2 with
          | nil =>
            rw [hlent] at h
            simp only [Option.some.injEq] at h
            subst h
            simp only at hm hq hnd
            refine ⟨key hm.left hm.right.left hm.right.right (hq _ List.mem_cons_self) _ ?_, ?_⟩
            · rw [hlent]
              cases (flat 8 v && hh.all (fun ob => ob.cells.all (flat 8))) <;> simp [shut]
            · have := turn [] (fun _ _ h => by cases h) (by simpa using hnd) hm.right.right
              rw [List.append_nil] at this
              exact this
          | cons l0 lr =>
            rw [hlent] at h
            simp only at h
            cases hf : (flat 8 v && hh.all (fun ob => ob.cells.all (flat 8))) with
            | true =>
              rw [hf] at h
              simp only [cond_true, Option.some.injEq] at h
              subst h
              simp only at hm hq hnd
              refine ⟨key hm.left hm.right.left hm.right.right (hq _ List.mem_cons_self) _ ?_, ?_⟩
              · rw [hlent, hf]
                rfl
              · have := turn [] (fun _ _ h => by cases h) (by simpa using hnd) hm.right.right
                rw [List.append_nil] at this
                exact this
            | false =>
              rw [hf] at h
              simp only [cond_false] at h
              obtain ⟨cl, hcl, h⟩ := obind_some h
              simp only [Option.some.injEq] at h
              subst h
              simp only at hm hq hnd
              refine ⟨key hm.left hm.right.left hm.right.right (hq _ List.mem_cons_self) _ ?_, ?_⟩
              · rw [hlent, hf]
                simp only [cond_false]
                rw [hcl, Option.bind_some]
              · exact turn cl (shut_same _ _ hcl) hnd hm.right.right
def mute : Orc := fun _ => none
theorem iop_mute {X : Orc} {e : Nat → PV} {H : Nat → Option Ob} {fr : Nat} {o : IOp} {x : Eff} (h : iop mute e H fr o = some x) : iop X e H fr o = some x := by
  cases o with
  | call b f xs =>
    simp only [iop] at h
    obtain ⟨t, _, h⟩ := obind_some h
    unfold icall at h
    obtain ⟨y, _, h⟩ := obind_some h
    obtain ⟨z, _, h⟩ := obind_some h
    simp only at h
    cases hd : disj (y.2.2 ++ z.2.2) z.2.1 with
    | false => rw [hd] at h; cases h
    | true =>
      rw [hd] at h
      simp only [cond_true] at h
      obtain ⟨_, h, _⟩ := obind_some h
      cases h
  | _ => exact h
theorem istep_mute {X : Orc} {e : Nat → PV} {H : Nat → Option Ob} {fr : Nat} {o : IOper} {x : Eff} (h : istep mute e H fr o = some x) : istep X e H fr o = some x := by
  unfold istep at h ⊢
  obtain ⟨w, hw, h⟩ := obind_some h
  rw [hw, Option.bind_some]
  cases w with
  | true => exact iop_mute h
  | false => exact h
def iopV (e : Nat → PV) (H : Nat → Option Ob) (vw : Views) (fr : Nat) (az : List Ans) : IOp → Option EV
  | .call byRef f args => (target (f.ev e) (evs e args)).bind fun t => icallW H vw fr byRef t.1 t.2 az
  | o => (iop mute e H fr o).bind fun x => some ⟨x, x.hw.map (·.1), [], az, [], []⟩
def istepV (e : Nat → PV) (H : Nat → Option Ob) (vw : Views) (fr : Nat) (az : List Ans) (o : IOper) : Option EV :=
  (o.wanted e).bind fun w => bif w then iopV e H vw fr az o.op else some ⟨⟨.tup [], [], []⟩, [], [], az, [], []⟩
theorem turned_plain {H : Nat → Option Ob} {vw : Views} (hv : VOK H vw) {x : Eff} {az : List Ans} : Turned H vw ⟨x, x.hw.map (·.1), [], az, [], []⟩ := by
  intro id rows hl
  rcases putV_look hl with hl | ⟨hl, hc⟩
  · cases hl
  · obtain ⟨ob, hob, hok⟩ := hv id rows hl
    refine ⟨ob, ?_, hok⟩
    rw [upH_not (fun y hy e => hc (by rw [← e]; exact List.mem_map_of_mem hy))]
    exact hob
theorem istepV_sound {G : Nat → Option Fun} {e : Nat → PV} {H : Nat → Option Ob} {vw : Views} (hv : VOK H vw) {fr : Nat} {az : List Ans} {o : IOper} {y : EV} (h : istepV e H vw fr az o = some y) (hm : Met y.owed) (hq : Told G y.asked) : istep (lim G) e H fr o = some y.eff ∧ Turned H vw y := by
  unfold istepV at h
  obtain ⟨w, hw, h⟩ := obind_some h
  unfold istep
  rw [hw, Option.bind_some]
  cases w with
  | false =>
    simp only [cond_false, Option.some.injEq] at h
    subst h
    exact ⟨rfl, turned_plain hv (x := ⟨.tup [], [], []⟩)⟩
  | true =>
    simp only [cond_true] at h ⊢
    have gen : ((iop mute e H fr o.op).bind fun x => some (⟨x, x.hw.map (·.1), [], az, [], []⟩ : EV)) = some y → iop (lim G) e H fr o.op = some y.eff ∧ Turned H vw y := by
      intro h
      obtain ⟨x, hx, h⟩ := obind_some h
      simp only [Option.some.injEq] at h
      subst h
      exact ⟨iop_mute hx, turned_plain hv⟩
    cases ho : o.op with
    | call b f xs =>
      rw [ho] at h
      simp only [iopV] at h
      obtain ⟨t, ht, h⟩ := obind_some h
      simp only [iop]
      rw [ht, Option.bind_some]
      exact icallV_sound hv h hm hq
    | _ =>
      rw [ho] at h gen
      exact gen h
/-- after so many operations that are carried out, one whose effect is handed in, with the views that begin there -/
abbrev HintsV := List (Nat × (Eff × Views))
structure TV where
  env : List PV
  heap : List (Nat × Ob)
  vw : Views
  effs : List Eff
  hs : HintsV
  az : List Ans
  owed : List Prop
  asked : Asked
def nobody : Nat → Option Ob := fun _ => none
def iregV (nx : Nat) : Nat → List IOper → HintsV → List Ans → List PV → List (Nat × Ob) → Views → Option TV
  | _, [], hs, az, env, h, vw => some ⟨env, h, vw, [], hs, az, [], []⟩
  | i, o :: r, hs, az, env, h, vw =>
    match hs with
    | [] => (istepV (envF env) (look h) vw (nx + 64 * i) az o).bind fun x => (iregV nx (i + 1) r [] x.az (put env o.dst x.eff.v) (hput h x.eff.hw) (putV vw x.cut x.new)).bind fun y => some ⟨y.env, y.heap, y.vw, x.eff :: y.effs, y.hs, y.az, x.owed ++ y.owed, x.asked ++ y.asked⟩
    | (k + 1, z) :: hs' => (istepV (envF env) (look h) vw (nx + 64 * i) az o).bind fun x => (iregV nx (i + 1) r ((k, z) :: hs') x.az (put env o.dst x.eff.v) (hput h x.eff.hw) (putV vw x.cut x.new)).bind fun y => some ⟨y.env, y.heap, y.vw, x.eff :: y.effs, y.hs, y.az, x.owed ++ y.owed, x.asked ++ y.asked⟩
    | (0, x) :: hs' => (iregV nx (i + 1) r hs' az (put env o.dst x.1.v) (hput h x.1.hw) (putV vw (x.1.hw.map (·.1)) x.2)).bind fun y => some ⟨y.env, y.heap, y.vw, x.1 :: y.effs, y.hs, y.az, (istep mute (envF env) (look h) (nx + 64 * i) o = some x.1) :: ((x.2.map fun p => Seen (upH nobody x.1.hw p.1) p.2) ++ y.owed), y.asked⟩
theorem VOK.turned {h : List (Nat × Ob)} {vw : Views} {y : EV} (ht : Turned (look h) vw y) : VOK (look (hput h y.eff.hw)) (putV vw y.cut y.new) := by
  rw [look_hput]
  exact ht
theorem upH_nobody {ws : List (Nat × Option Ob)} {H : Nat → Option Ob} {id : Nat} {ob : Ob} (h : upH nobody ws id = some ob) : upH H ws id = some ob := by
  by_cases c : ∃ x ∈ ws, x.1 = id
  · rw [upH_congr (H' := nobody) c]
    exact h
  · rw [upH_not (fun y hy e => c ⟨y, hy, e⟩)] at h
    cases h
theorem iregV_sound {G : Nat → Option Fun} {nx : Nat} : ∀ (ops : List IOper) (i : Nat) (hs : HintsV) (az : List Ans) (env : List PV) (h : List (Nat × Ob)) (vw : Views) (t : TV), iregV nx i ops hs az env h vw = some t → VOK (look h) vw → Met t.owed → Told G t.asked → iregion (lim G) nx i ops env h = some (t.env, t.heap, t.effs) ∧ VOK (look t.heap) t.vw
  | [], i, hs, az, env, h, vw, t, ht, hv, _, _ => by
    simp only [iregV, Option.some.injEq] at ht
    subst ht
    exact ⟨rfl, hv⟩
  | o :: r, i, hs, az, env, h, vw, t, ht, hv, hm, hq => by
    have go : ∀ (x : EV) (hs' : HintsV) (vw' : Views), istep (lim G) (envF env) (look h) (nx + 64 * i) o = some x.eff → VOK (look (hput h x.eff.hw)) vw' → ∀ (y : TV), iregV nx (i + 1) r hs' x.az (put env o.dst x.eff.v) (hput h x.eff.hw) vw' = some y → Met y.owed → Told G y.asked → y.env = t.env → y.heap = t.heap → y.vw = t.vw → x.eff :: y.effs = t.effs → iregion (lim G) nx i (o :: r) env h = some (t.env, t.heap, t.effs) ∧ VOK (look t.heap) t.vw := by
      intro x hs' vw' hx hvx y hy hmy hqy e1 e2 e3 e4
      obtain ⟨r1, r2⟩ := iregV_sound r (i + 1) hs' _ _ _ _ y hy hvx hmy hqy
      simp only [iregion]
      rw [hx, Option.bind_some, r1, Option.bind_some, ← e1, ← e2, ← e3, ← e4]
      exact ⟨rfl, r2⟩
    unfold iregV at ht
    split at ht
    · obtain ⟨x, hx, ht⟩ := obind_some ht
      obtain ⟨y, hy, ht⟩ := obind_some ht
      simp only [Option.some.injEq] at ht
      subst ht
      obtain ⟨s1, s2⟩ := istepV_sound hv hx hm.left hq.left
      exact go x _ _ s1 (VOK.turned s2) y hy hm.right hq.right rfl rfl rfl rfl
    · obtain ⟨x, hx, ht⟩ := obind_some ht
      obtain ⟨y, hy, ht⟩ := obind_some ht
      simp only [Option.some.injEq] at ht
      subst ht
      obtain ⟨s1, s2⟩ := istepV_sound hv hx hm.left hq.left
      exact go x _ _ s1 (VOK.turned s2) y hy hm.right hq.right rfl rfl rfl rfl
    · rename_i x hs'
      obtain ⟨y, hy, ht⟩ := obind_some ht
      simp only [Option.some.injEq] at ht
      subst ht
      have hx : istep (lim G) (envF env) (look h) (nx + 64 * i) o = some x.1 := istep_mute hm.head
      have hseen : Met (x.2.map fun p => Seen (upH nobody x.1.hw p.1) p.2) := hm.tail.left
      have hvx : VOK (look (hput h x.1.hw)) (putV vw (x.1.hw.map (·.1)) x.2) := by
        rw [look_hput]
        intro id rows hl
        rcases putV_look hl with hl | ⟨hl, hc⟩
        · obtain ⟨ob, hob, hok⟩ := hseen _ (List.mem_map_of_mem (f := fun p : Nat × List (List PV) => Seen (upH nobody x.1.hw p.1) p.2) (look_in hl))
          exact ⟨ob, upH_nobody hob, hok⟩
        · obtain ⟨ob, hob, hok⟩ := hv id rows hl
          refine ⟨ob, ?_, hok⟩
          rw [upH_not (fun y hy e => hc (by rw [← e]; exact List.mem_map_of_mem hy))]
          exact hob
      exact go ⟨x.1, x.1.hw.map (·.1), x.2, az, [], []⟩ hs' _ hx hvx y hy hm.tail.right hq rfl rfl rfl rfl
structure CV where
  ex : Ex
  st : St
  vw : Views
  hs : HintsV
  az : List Ans
  owed : List Prop
  asked : Asked
def icodeV (m : Nat) : IR → HintsV → List Ans → Views → St → Option CV
  | .skip, hs, az, vw, s => some ⟨.normal, s, vw, hs, az, [], []⟩
  | .reg ops draw, hs, az, vw, s => (iregV s.nx 0 ops hs az s.env s.heap vw).bind fun y => bif !draw || calm (ops.zip y.effs) 0 (ops.zip y.effs) then some ⟨.normal, ⟨y.env, y.heap, s.nx + 64 * ops.length⟩, y.vw, y.hs, y.az, y.owed, y.asked⟩ else none
  | .seq a b, hs, az, vw, s => (icodeV m a hs az vw s).bind fun x => (match x.ex with | .normal => (icodeV m b x.hs x.az x.vw x.st).bind fun y => some ⟨y.ex, y.st, y.vw, y.hs, y.az, x.owed ++ y.owed, x.asked ++ y.asked⟩ | _ => some x)
  | .cond c a b, hs, az, vw, s => (match c.ev (envF s.env) with | .bool t => (bif t then icodeV m a hs az vw s else icodeV m b hs az vw s) | _ => none)
  | .block id b, hs, az, vw, s => (icodeV m b hs az vw s).bind fun x => (match x.ex with | .exit j => (bif Nat.beq j id then some ⟨.normal, x.st, x.vw, x.hs, x.az, x.owed, x.asked⟩ else some x) | _ => some x)
  | .loop live b, hs, az, vw, s => (gcV vw m live s).bind fun y => (match az with
    | [] => none
    | a :: az' => (match a.r with | .st e s' => some ⟨e, s', a.vw, hs, az', y.2 ++ (a.vw.map fun p => Seen (look s'.heap p.1) p.2), [(.loop m live b y.1.1 y.1.2, a.r)]⟩ | _ => none))
  | .exit id, hs, az, vw, s => some ⟨.exit id, s, vw, hs, az, [], []⟩
  | .ret, hs, az, vw, s => some ⟨.ret, s, vw, hs, az, [], []⟩
theorem icodeV_sound {G : Nat → Option Fun} {m : Nat} : ∀ (c : IR) (hs : HintsV) (az : List Ans) (vw : Views) (s : St) (t : CV), icodeV m c hs az vw s = some t → VOK (look s.heap) vw → Met t.owed → Told G t.asked → icode (lim G) m c s = some (t.ex, t.st) ∧ VOK (look t.st.heap) t.vw
  | .skip, hs, az, vw, s, t, ht, hv, _, _ => by
    simp only [icodeV, Option.some.injEq] at ht
    subst ht
    exact ⟨rfl, hv⟩
  | .reg ops draw, hs, az, vw, s, t, ht, hv, hm, hq => by
    simp only [icodeV] at ht
    obtain ⟨y, hy, ht⟩ := obind_some ht
    cases hc : (!draw || calm (ops.zip y.effs) 0 (ops.zip y.effs)) with
    | false => rw [hc] at ht; cases ht
    | true =>
      rw [hc] at ht
      simp only [cond_true, Option.some.injEq] at ht
      subst ht
      obtain ⟨r1, r2⟩ := iregV_sound ops 0 hs az s.env s.heap vw y hy hv hm hq
      have h1 : ireg (lim G) ops draw s = some ⟨y.env, y.heap, s.nx + 64 * ops.length⟩ := by
        unfold ireg
        rw [r1, Option.bind_some]
        simp only
        rw [hc]
        rfl
      simp only [icode]
      rw [h1]
      exact ⟨rfl, r2⟩
  | .seq a b, hs, az, vw, s, t, ht, hv, hm, hq => by
    simp only [icodeV] at ht
    obtain ⟨x, hx, ht⟩ := obind_some ht
    obtain ⟨ex, st, vw1, hs1, as1, ow1, ak1⟩ := x
    simp only [icode]
    cases ex with
    | normal =>
      simp only at ht
      obtain ⟨y, hy, ht⟩ := obind_some ht
      simp only [Option.some.injEq] at ht
      subst ht
      obtain ⟨r1, r2⟩ := icodeV_sound a hs az vw s _ hx hv hm.left hq.left
      rw [r1, Option.bind_some]
      exact icodeV_sound b _ _ _ _ y hy r2 hm.right hq.right
    | exit j =>
      simp only [Option.some.injEq] at ht
      subst ht
      obtain ⟨r1, r2⟩ := icodeV_sound a hs az vw s _ hx hv hm hq
      rw [r1, Option.bind_some]
      exact ⟨rfl, r2⟩
    | ret =>
      simp only [Option.some.injEq] at ht
      subst ht
      obtain ⟨r1, r2⟩ := icodeV_sound a hs az vw s _ hx hv hm hq
      rw [r1, Option.bind_some]
      exact ⟨rfl, r2⟩
  | .cond c a b, hs, az, vw, s, t, ht, hv, hm, hq => by
    simp only [icodeV] at ht
    simp only [icode]
    split at ht
    · rename_i q hq'
      rw [hq']
      simp only
      cases q with
      | true => exact icodeV_sound a hs az vw s t ht hv hm hq
      | false => exact icodeV_sound b hs az vw s t ht hv hm hq
    · cases ht
  | .block id b, hs, az, vw, s, t, ht, hv, hm, hq => by
    simp only [icodeV] at ht
    obtain ⟨x, hx, ht⟩ := obind_some ht
    obtain ⟨ex, st, vw1, hs1, as1, ow1, ak1⟩ := x
    simp only [icode]
    cases ex with
    | normal =>
      simp only [Option.some.injEq] at ht
      subst ht
      obtain ⟨r1, r2⟩ := icodeV_sound b hs az vw s _ hx hv hm hq
      rw [r1, Option.bind_some]
      exact ⟨rfl, r2⟩
    | ret =>
      simp only [Option.some.injEq] at ht
      subst ht
      obtain ⟨r1, r2⟩ := icodeV_sound b hs az vw s _ hx hv hm hq
      rw [r1, Option.bind_some]
      exact ⟨rfl, r2⟩
    | exit j =>
      simp only at ht
      cases hj : Nat.beq j id with
      | true =>
        rw [hj] at ht
        simp only [cond_true, Option.some.injEq] at ht
        subst ht
        obtain ⟨r1, r2⟩ := icodeV_sound b hs az vw s _ hx hv hm hq
        rw [r1, Option.bind_some]
        simp only
        rw [hj]
        exact ⟨rfl, r2⟩
      | false =>
        rw [hj] at ht
        simp only [cond_false, Option.some.injEq] at ht
        subst ht
        obtain ⟨r1, r2⟩ := icodeV_sound b hs az vw s _ hx hv hm hq
        rw [r1, Option.bind_some]
        simp only
        rw [hj]
        exact ⟨rfl, r2⟩
  | .loop live b, hs, az, vw, s, t, ht, hv, hm, hq => by
    simp only [icodeV] at ht
    obtain ⟨y, hy, ht⟩ := obind_some ht
    simp only [icode]
    cases az with
    | nil => cases ht
    | cons a az' =>
      obtain ⟨r, avw⟩ := a
      cases r with
      | ret _ _ => cases ht
      | st e s' =>
        simp only [Option.some.injEq] at ht
        subst ht
        rw [gcV_sound hv hy hm.left, Option.bind_some, lim_of (hq _ List.mem_cons_self), Option.bind_some]
        refine ⟨rfl, fun id rows hl => ?_⟩
        exact hm.right _ (List.mem_map_of_mem (f := fun p : Nat × List (List PV) => Seen (look s'.heap p.1) p.2) (look_in hl))
  | .exit id, hs, az, vw, s, t, ht, hv, _, _ => by
    simp only [icodeV, Option.some.injEq] at ht
    subst ht
    exact ⟨rfl, hv⟩
  | .ret, hs, az, vw, s, t, ht, hv, _, _ => by
    simp only [icodeV, Option.some.injEq] at ht
    subst ht
    exact ⟨rfl, hv⟩
def finV (fn : IFn) (m : Nat) (vw : Views) (s : St) : Option (Rs × List Prop) :=
  (mapO (rv s) fn.res).bind fun vs =>
    let a := bif fn.keep then virtL s.nx vs else (vs, s.nx, [])
    let H := look (s.heap ++ a.2.2)
    (passLV (passV H vw fn.keep 8) a.1 (upTo m)).bind fun y =>
      (passObsV H vw false true 32 0 y.1.2.1).bind fun z =>
        bif disj (y.1.2.2 ++ z.1.2.2) z.1.2.1 then some (.ret (match y.1.1 with | [v] => v | l => .tup l) (regr m z.1.1), y.2 ++ z.2) else none
theorem finV_sound {fn : IFn} {m : Nat} {vw : Views} {s : St} (hv : VOK (look s.heap) vw) {y : Rs × List Prop} (h : finV fn m vw s = some y) (hm : Met y.2) : fin fn m s = some y.1 := by
  unfold finV at h
  unfold fin
  obtain ⟨vs, hvs, h⟩ := obind_some h
  rw [hvs, Option.bind_some]
  simp only at h ⊢
  have hv' : VOK (look (s.heap ++ (bif fn.keep then virtL s.nx vs else (vs, s.nx, [])).2.2)) vw := by
    intro id rows hl
    obtain ⟨ob, hob, hok⟩ := hv id rows hl
    refine ⟨ob, ?_, hok⟩
    rw [look_app, hob]
  obtain ⟨x, hx, h⟩ := obind_some h
  obtain ⟨z, hz, h⟩ := obind_some h
  cases hd : disj (x.1.2.2 ++ z.1.2.2) z.1.2.1 with
  | false => rw [hd] at h; cases h
  | true =>
    rw [hd] at h
    simp only [cond_true, Option.some.injEq] at h
    subst h
    rw [passLV_sound (passV_sound hv' 8) _ _ x hx hm.left, Option.bind_some, passObsV_sound hv' 32 _ _ z hz hm.right, Option.bind_some, hd]
    rfl
def callV (fn : IFn) (args : List PV) (h : List Ob) (vw : Views) (hs : HintsV) (az : List Ans) : Option (Rs × List Prop × Asked) :=
  bif Nat.beq args.length fn.np then
    (icodeV h.length fn.body hs az vw ⟨args ++ nuns (fn.nt - fn.np), number 0 h, h.length⟩).bind fun x =>
      (match x.ex with
       | .exit _ => none
       | _ => (finV fn h.length x.vw x.st).bind fun r => some (r.1, x.owed ++ r.2, x.asked))
  else none
theorem tells_V {G : Nat → Option Fun} {f : Nat} {fn : IFn} (hG : G f = some (.ir fn)) {args : List PV} {h : List Ob} {vw : Views} (hv : VOK (look (number 0 h)) vw) {hs : HintsV} {az : List Ans} {r : Rs} {ow : List Prop} {ak : Asked} (hp : Met ow) (hq : Told G ak) (ht : callV fn args h vw hs az = some (r, ow, ak)) : Tells G (.call f args h) r := by
  refine tells_phi sure_lim ?_
  unfold callV at ht
  simp only [phi, hG]
  cases hl : Nat.beq args.length fn.np with
  | false => rw [hl] at ht; cases ht
  | true =>
    rw [hl] at ht
    simp only [cond_true] at ht ⊢
    obtain ⟨x, hx, ht⟩ := obind_some ht
    obtain ⟨ex, st, vw1, hs1, as1, ow1, ak1⟩ := x
    cases ex with
    | exit j => cases ht
    | normal =>
      simp only at ht
      obtain ⟨r', hr, ht⟩ := obind_some ht
      simp only [Option.some.injEq, Prod.mk.injEq] at ht
      obtain ⟨rfl, rfl, rfl⟩ := ht
      obtain ⟨r1, r2⟩ := icodeV_sound _ hs az vw _ _ hx hv hp.left hq
      rw [r1, Option.bind_some]
      exact finV_sound r2 hr hp.right
    | ret =>
      simp only at ht
      obtain ⟨r', hr, ht⟩ := obind_some ht
      simp only [Option.some.injEq, Prod.mk.injEq] at ht
      obtain ⟨rfl, rfl, rfl⟩ := ht
      obtain ⟨r1, r2⟩ := icodeV_sound _ hs az vw _ _ hx hv hp.left hq
      rw [r1, Option.bind_some]
      exact finV_sound r2 hr hp.right
theorem VOK.nil {H : Nat → Option Ob} : VOK H [] := fun _ _ h => by cases h
def nextV (m : Nat) (live : List Nat) (b : IR) (env : List PV) (h : List Ob) (vw : Views) (hs : HintsV) (az : List Ans) : Option ((List PV × List Ob) × List Prop × Asked) :=
  (icodeV m b hs az vw ⟨env, number 0 h, h.length⟩).bind fun x => (match x.ex with | .normal => (gcV x.vw m live x.st).bind fun y => some (y.1, x.owed ++ y.2, x.asked) | _ => none)
theorem tells_nextV {G : Nat → Option Fun} {m : Nat} {live : List Nat} {b : IR} {env : List PV} {h : List Ob} {vw : Views} (hv : VOK (look (number 0 h)) vw) {hs : HintsV} {az : List Ans} {y : List PV × List Ob} {ow : List Prop} {ak : Asked} {r : Rs} (hp : Met ow) (hq : Told G ak) (ht : nextV m live b env h vw hs az = some (y, ow, ak)) (hr : Tells G (.loop m live b y.1 y.2) r) : Tells G (.loop m live b env h) r := by
  unfold nextV at ht
  obtain ⟨x, hx, ht⟩ := obind_some ht
  obtain ⟨ex, st, vw1, hs1, as1, ow1, ak1⟩ := x
  cases ex with
  | normal =>
    simp only at ht
    obtain ⟨y', hg, ht⟩ := obind_some ht
    simp only [Option.some.injEq, Prod.mk.injEq] at ht
    obtain ⟨rfl, rfl, rfl⟩ := ht
    obtain ⟨r1, r2⟩ := icodeV_sound _ hs az vw _ _ hx hv hp.left hq
    exact tells_loop sure_lim r1 (gcV_sound r2 hg hp.right) hr
  | exit j => cases ht
  | ret => cases ht
def leaveV (m : Nat) (b : IR) (env : List PV) (h : List Ob) (vw : Views) (hs : HintsV) (az : List Ans) : Option ((Ex × St) × List Prop × Asked) :=
  (icodeV m b hs az vw ⟨env, number 0 h, h.length⟩).bind fun x => (match x.ex with | .normal => none | e => some ((e, x.st), x.owed, x.asked))
theorem tells_outV {G : Nat → Option Fun} {m : Nat} {live : List Nat} {b : IR} {env : List PV} {h : List Ob} {vw : Views} (hv : VOK (look (number 0 h)) vw) {hs : HintsV} {az : List Ans} {x : Ex × St} {ow : List Prop} {ak : Asked} (hp : Met ow) (hq : Told G ak) (ht : leaveV m b env h vw hs az = some (x, ow, ak)) : Tells G (.loop m live b env h) (.st x.1 x.2) := by
  unfold leaveV at ht
  obtain ⟨y, hy, ht⟩ := obind_some ht
  obtain ⟨ex, st, vw1, hs1, as1, ow1, ak1⟩ := y
  cases ex with
  | normal => cases ht
  | exit j =>
    simp only [Option.some.injEq, Prod.mk.injEq] at ht
    obtain ⟨rfl, rfl, rfl⟩ := ht
    exact tells_leave sure_lim (by intro h; cases h) (icodeV_sound _ hs az vw _ _ hy hv hp hq).1
  | ret =>
    simp only [Option.some.injEq, Prod.mk.injEq] at ht
    obtain ⟨rfl, rfl, rfl⟩ := ht
    exact tells_leave sure_lim (by intro h; cases h) (icodeV_sound _ hs az vw _ _ hy hv hp hq).1
end Go.Pv
end

section
/-
  Small words and hints' lemmas for walks that a program prints.
-/
namespace Go.Pv
def bE (b : Bool) : Eff := ⟨.bool b, [], []⟩
def vE (v : PV) : Eff := ⟨v, [], []⟩
def w64 (n : Int) : Int := IntKind.i64.wrap n
def mx (x y : Int) : Int := if y > x then y else x
def sEq (a b : ByteArray) : Bool := a.toList == b.toList
def sLt (a b : ByteArray) : Bool := Op.bytesLess a.toList b.toList
theorem dec (c v : Bool) (h : c = v) : some (bE c) = some (bE v) := by rw [h]
theorem toldOf {G : Nat → Option Fun} {e : En} {r r' : Rs} (h : Tells G e r) (hr : r = r') : Tells G e r' := hr ▸ h
theorem rowsGet {α : Type} {f : α → List PV} {l : List α} {i : Nat} {x : α} (h : l[i]? = some x) : (l.map f)[i]? = some (f x) := by
  rw [List.getElem?_map, h]
  rfl
def ixE (sz : Nat) (l : List (List PV)) (i : Int) : Option Eff := (opP (fun _ => .un) (.iaddr sz (.c (.sl l)) (.c (.int .i64 i)))).bind fun v => some ⟨v, [], []⟩
theorem ix_ok (sz : Nat) (l : List (List PV)) (i : Nat) (r : List PV) (h : l[i]? = some r) (hs : r.length = sz) : ixE sz l (i : Int) = some (vE (.rf r)) := by
  unfold ixE
  simp only [opP, Opd.ev, asNat]
  have h0 : decide (0 ≤ (i : Int)) = true := by simp
  rw [h0]
  simp only [cond_true, Option.bind_some, Int.toNat_natCast]
  rw [h]
  subst hs
  simp [vE]
theorem ixI_ok (sz : Nat) (l : List (List PV)) (i : Int) (r : List PV) (h0 : 0 ≤ i) (h : l[i.toNat]? = some r) (hs : r.length = sz) : ixE sz l i = some (vE (.rf r)) := by
  have := ix_ok sz l i.toNat r h hs
  rw [show ((i.toNat : Nat) : Int) = i by omega] at this
  exact this
def lenE (l : List (List PV)) : Option Eff := some ⟨.int .i64 (l.length : Int), [], []⟩
theorem len_ok (l : List (List PV)) (n : Nat) (h : l.length = n) : lenE l = some (vE (.int .i64 (n : Int))) := by
  unfold lenE
  rw [h]
  rfl
theorem w64_of {n : Int} (h : -9223372036854775808 ≤ n ∧ n ≤ 9223372036854775807) : w64 n = n := by
  unfold w64 IntKind.wrap
  simp [IntKind.signed, IntKind.bits]
  omega
def addE (a b : Int) : Option Eff := some ⟨.int .i64 (IntKind.i64.wrap (a + b)), [], []⟩
theorem inc_ok (i : Nat) (h : i < 9223372036854775807) : addE (i : Int) 1 = some (vE (.int .i64 ((i + 1 : Nat) : Int))) := by
  unfold addE
  have : IntKind.i64.wrap ((i : Int) + 1) = ((i + 1 : Nat) : Int) := by
    have := w64_of (n := (i : Int) + 1) (by omega)
    unfold w64 at this
    rw [this]
    rfl
  rw [this]
  rfl
theorem apC_eq {ob : Ob} {k : Nat} (h : ob.cells.length = k) : apC ob k = some ob.cells := by
  unfold apC
  rw [h, Nat.beq_refl]
  rfl
/-- an append of one element to a slice whose rows are known -/
def apE (id lid fr sz bytes ro lro : Nat) (lgr : Bool) (rows : List (List PV)) (r : List PV) (n : Nat) : Option Eff :=
  opAppend (look [(id, ⟨sz, ro, true, rows.flatten⟩), (lid, ⟨sz, lro, lgr, r⟩)]) fr sz bytes (.ms id sz 0 n) (.ms lid sz 0 1)
theorem ap_ok (id lid fr sz bytes ro lro : Nat) (lgr : Bool) (rows rows' : List (List PV)) (r : List PV) (n n' : Nat) (hne : Nat.beq id lid = false) (hn : n = rows.length) (hn' : n' = rows'.length) (hr' : rows' = rows ++ [r])
    (hs : ∀ r ∈ rows, r.length = sz) (hr : r.length = sz) (hb : (n + 1) * bytes ≤ 140737488355328) :
    apE id lid fr sz bytes ro lro lgr rows r n = some ⟨.ms fr sz 0 n', [(id, none), (fr, some ⟨sz, ro, true, rows'.flatten⟩)], [id, lid]⟩ := by
  subst hn hn' hr'
  unfold apE opAppend
  have h1 : look [(id, (⟨sz, ro, true, rows.flatten⟩ : Ob)), (lid, ⟨sz, lro, lgr, r⟩)] lid = some ⟨sz, lro, lgr, r⟩ := by simp [look, hne]
  have h2 : look [(id, (⟨sz, ro, true, rows.flatten⟩ : Ob)), (lid, ⟨sz, lro, lgr, r⟩)] id = some ⟨sz, ro, true, rows.flatten⟩ := by simp [look]
  have hsrc : source (look [(id, (⟨sz, ro, true, rows.flatten⟩ : Ob)), (lid, ⟨sz, lro, lgr, r⟩)]) sz (.ms lid sz 0 1) = some (1, r, [lid]) := by
    simp only [source, h1, Option.bind_some]
    subst hr
    have : Nat.ble r.length r.length = true := Nat.ble_eq_true_of_le (Nat.le_refl _)
    simp [this]
  rw [hsrc, Option.bind_some]
  simp only [h2, Option.bind_some]
  have hc : (true && Nat.beq sz sz && Nat.beq sz sz && Nat.beq 0 0 && Nat.ble ((rows.length + 1) * bytes) 140737488355328) = true := by
    simp only [Nat.beq_refl, Bool.and_true, Bool.true_and]
    exact Nat.ble_eq_true_of_le hb
  rw [hc, apC_eq (ob := ⟨sz, ro, true, rows.flatten⟩) (flat_length sz rows hs)]
  simp
end Go.Pv
namespace Go.Pv
theorem VOK.cons {H : Nat → Option Ob} {vw : Views} {id : Nat} {rows : List (List PV)} (h : Seen (H id) rows) (hv : VOK H vw) : VOK H ((id, rows) :: vw) := by
  intro k rs hl
  simp only [look] at hl
  cases c : Nat.beq id k with
  | true =>
    have := Nat.eq_of_beq_eq_true c
    subst this
    rw [c] at hl
    simp only [cond_true, Option.some.injEq] at hl
    subst hl
    exact h
  | false =>
    rw [c] at hl
    exact hv k rs hl
theorem drop_get {α : Type} {l : List α} {i : Nat} {x : α} {r : List α} (h : l.drop i = x :: r) : l[i]? = some x ∧ i < l.length ∧ l.drop (i + 1) = r := by
  have h1 : l[i]? = some x := by
    have := congrArg (fun q => q[0]?) h
    simpa [List.getElem?_drop] using this
  have h2 : i < l.length := (List.getElem?_eq_some_iff.1 h1).1
  refine ⟨h1, h2, ?_⟩
  rw [← List.tail_drop, h]
  rfl
theorem drop_end {α : Type} {l : List α} {i : Nat} (h : l.drop i = []) : l.length ≤ i := by
  simpa using h
theorem mem_get {α : Type} {l : List α} {i : Nat} {x : α} (h : l[i]? = some x) : x ∈ l := List.mem_of_getElem? h
theorem mapSize {α : Type} {f : α → List PV} {n : Nat} (h : ∀ x, (f x).length = n) (l : List α) : ∀ r ∈ l.map f, r.length = n := fun r hr => by
  obtain ⟨x, _, rfl⟩ := List.mem_map.1 hr
  exact h x
theorem mapPlain {α : Type} {f : α → List PV} (h : ∀ x, (f x).all plain = true) (l : List α) : ∀ r ∈ l.map f, ∀ p ∈ r, plain p = true := fun r hr p hp => by
  obtain ⟨x, _, rfl⟩ := List.mem_map.1 hr
  exact List.all_eq_true.1 (h x) p hp
end Go.Pv
namespace Go.Pv
def zoF (l : List (Nat × List PV)) (j : Nat) : List PV := (look l j).getD []
end Go.Pv
namespace Go.Pv
def optI : Option Int → Option Opd
  | none => none
  | some n => some (.c (.int .i64 n))
theorem rowsSz_ok {l : List (List PV)} {sz : Nat} (hs : ∀ r ∈ l, r.length = sz) : rowsSz l sz = true := by
  unfold rowsSz
  rw [List.all_eq_true]
  intro r hr
  rw [hs r hr]
  exact Nat.beq_refl sz
end Go.Pv
namespace Go.Pv
def ixmE (id sz off len : Nat) (i : Int) : Option Eff := (opP (fun _ => .un) (.iaddr sz (.c (.ms id sz off len)) (.c (.int .i64 i)))).bind fun v => some ⟨v, [], []⟩
theorem ixm_ok (id sz off len : Nat) (i : Int) (k at_ : Nat) (h : i = (k : Int)) (hk : k < len) (ha : at_ = (off + k) * sz) : ixmE id sz off len i = some (vE (.bx id at_)) := by
  subst h ha
  unfold ixmE
  simp only [opP, Opd.ev, asNat]
  have h0 : decide (0 ≤ (k : Int)) = true := by simp
  rw [h0]
  simp only [cond_true, Option.bind_some, Int.toNat_natCast]
  have h1 : (Nat.beq sz sz && Nat.blt k len) = true := by
    rw [Nat.beq_refl, Bool.true_and]
    exact Nat.ble_eq_true_of_le hk
  rw [h1]
  rfl
end Go.Pv
namespace Go.Pv
theorem ixs_ok (id sz len : Nat) (i : Int) (k : Nat) (hk : k = i.toNat) (h0 : 0 ≤ i) (h1 : i < (len : Int)) : ixmE id sz 0 len i = some (vE (.bx id (k * sz))) :=
  ixm_ok id sz 0 len i k (k * sz) (by omega) (by omega) (by rw [Nat.zero_add])
theorem flatten_drop (sz : Nat) : ∀ (rows : List (List PV)) (k : Nat), (∀ r ∈ rows, r.length = sz) → rows.flatten.drop (k * sz) = (rows.drop k).flatten
  | [], k, _ => by simp
  | r :: rs, 0, _ => by simp
  | r :: rs, k + 1, h => by
    have h0 := h r List.mem_cons_self
    rw [List.flatten_cons, List.drop_succ_cons, ← flatten_drop sz rs k (fun q hq => h q (List.mem_cons_of_mem _ hq)), Nat.add_mul, Nat.one_mul, Nat.add_comm, ← List.drop_drop, List.drop_left' h0]
theorem flatten_at {sz : Nat} {rows : List (List PV)} {k : Nat} {r : List PV} {off n : Nat} (hr : rows[k]? = some r) (hs : ∀ r ∈ rows, r.length = sz) (hn : off + n ≤ sz) : (rows.flatten.drop (k * sz + off)).take n = (r.drop off).take n ∧ k * sz + off + n ≤ rows.flatten.length := by
  have hk : k < rows.length := (List.getElem?_eq_some_iff.1 hr).1
  have hd : rows.drop k = r :: rows.drop (k + 1) := by
    rw [List.drop_eq_getElem_cons hk]
    congr 1
    exact (List.getElem?_eq_some_iff.1 hr).2
  have hl := hs r (List.mem_of_getElem? hr)
  refine ⟨?_, ?_⟩
  · rw [← List.drop_drop, flatten_drop sz rows k hs, hd, List.flatten_cons]
    rw [List.drop_append_of_le_length (by omega), List.take_append_of_le_length (by rw [List.length_drop]; omega)]
  · rw [flat_length sz rows hs]
    have : (k + 1) * sz ≤ rows.length * sz := Nat.mul_le_mul_right _ hk
    rw [Nat.add_mul] at this
    omega
def ldE (id sz ro : Nat) (gr : Bool) (cells : List PV) (n : Nat) (ag : Bool) (at_ : Nat) : Option Eff := opLoad (look [(id, ⟨sz, ro, gr, cells⟩)]) n ag (.bx id at_)
theorem ld_ok (id sz ro : Nat) (gr : Bool) (cells : List PV) (rows : List (List PV)) (n : Nat) (ag : Bool) (k off at_ : Nat) (r : List PV) (v : PV) (hc : cells = rows.flatten) (ha : at_ = k * sz + off) (hr : rows[k]? = some r) (hs : ∀ r ∈ rows, r.length = sz) (hn : off + n ≤ sz) (hv : shape ag ((r.drop off).take n) = some v) :
    ldE id sz ro gr cells n ag at_ = some ⟨v, [], [id]⟩ := by
  subst hc ha
  obtain ⟨h1, h2⟩ := flatten_at hr hs hn
  unfold ldE opLoad reads
  simp only [look, Nat.beq_refl, cond_true, Option.bind_some]
  rw [Nat.ble_eq_true_of_le h2]
  simp only [cond_true, Option.bind_some]
  rw [h1, hv, Option.bind_some]
theorem getD_ok {α : Type} (l : List α) (k : Nat) (d : α) (h : k < l.length) : l[k]? = some (l.getD k d) := by
  rw [List.getD_eq_getElem?_getD, List.getElem?_eq_getElem h]
  rfl
end Go.Pv
namespace Go.Pv
end Go.Pv
namespace Go.Pv
end Go.Pv
end

section
/- More of single operations: sums that don't run over; shifts of indexes; stores into a slice of one's own that is known by its rows. -/
namespace Go.Pv
def wE (n : Int) : Option Eff := some ⟨.int .i64 (IntKind.i64.wrap n), [], []⟩
theorem w_ok (n : Int) (h : -9223372036854775808 ≤ n ∧ n ≤ 9223372036854775807) : wE n = some (vE (.int .i64 n)) := by
  unfold wE
  have := w64_of h
  unfold w64 at this
  rw [this]
  rfl
def sCmp (a b : ByteArray) : Int := cmpL a.toList b.toList
theorem flatten_set {sz : Nat} : ∀ (rows : List (List PV)) (k : Nat) (r vals : List PV) (off n : Nat), rows[k]? = some r → (∀ q ∈ rows, q.length = sz) → off + n ≤ sz → vals.length = n →
    rows.flatten.take (k * sz + off) ++ (vals ++ rows.flatten.drop (k * sz + off + n)) = (rows.set k (r.take off ++ (vals ++ r.drop (off + n)))).flatten ∧ k * sz + off + n ≤ rows.flatten.length
  | [], _, _, _, _, _, h, _, _, _ => by simp at h
  | q :: rs, 0, r, vals, off, n, h, hs, hn, hv => by
    have hq := hs q List.mem_cons_self
    simp only [List.getElem?_cons_zero, Option.some.injEq] at h
    subst h
    simp only [Nat.zero_mul, Nat.zero_add, List.flatten_cons, List.set_cons_zero, List.length_append]
    refine ⟨?_, by omega⟩
    rw [List.take_append_of_le_length (by omega), List.drop_append_of_le_length (by omega)]
    simp only [List.append_assoc]
  | q :: rs, k + 1, r, vals, off, n, h, hs, hn, hv => by
    have hq := hs q List.mem_cons_self
    simp only [List.getElem?_cons_succ] at h
    obtain ⟨h1, h2⟩ := flatten_set rs k r vals off n h (fun q hq => hs q (List.mem_cons_of_mem _ hq)) hn hv
    have e1 : (k + 1) * sz + off = q.length + (k * sz + off) := by rw [hq, Nat.add_mul]; omega
    have e2 : (k + 1) * sz + off + n = q.length + (k * sz + off + n) := by rw [hq, Nat.add_mul]; omega
    simp only [List.flatten_cons, List.set_cons_succ, List.length_append]
    refine ⟨?_, by omega⟩
    rw [e2, e1, List.take_length_add_append, List.drop_length_add_append, ← h1]
    simp only [List.append_assoc]
def stE (id sz ro : Nat) (gr : Bool) (cells : List PV) (n : Nat) (at_ : Nat) (x : PV) : Option Eff := opStore (look [(id, ⟨sz, ro, gr, cells⟩)]) n (.bx id at_) x
theorem st_ok (id sz : Nat) (gr : Bool) (cells : List PV) (rows rows' : List (List PV)) (n k off at_ : Nat) (r : List PV) (x : PV) (hc : cells = rows.flatten) (ha : at_ = k * sz + off) (hr : rows[k]? = some r) (hs : ∀ r ∈ rows, r.length = sz) (hn : off + n ≤ sz) (hx : x.cs.length = n) (hf : x.fits = true) (hrows : rows' = rows.set k (r.take off ++ (x.cs ++ r.drop (off + n)))) :
    stE id sz 0 gr cells n at_ x = some ⟨.un, [(id, some ⟨sz, 0, gr, rows'.flatten⟩)], [id]⟩ := by
  subst hc ha hrows
  obtain ⟨h1, h2⟩ := flatten_set rows k r x.cs off n hr hs hn hx
  unfold stE opStore
  simp only [look, Nat.beq_refl, cond_true, Option.bind_some]
  rw [hx, hf, Nat.beq_refl, Nat.ble_eq_true_of_le h2, Nat.ble_eq_true_of_le (Nat.zero_le _), h1]
  rfl
theorem rowsSet {α : Type} (f : α → List PV) (l : List α) (k : Nat) (x : α) : (l.set k x).map f = (l.map f).set k (f x) := List.map_set
theorem lenSet {α : Type} {l : List α} {n : Nat} (h : l.length = n) (k : Nat) (x : α) : (l.set k x).length = n := by rw [List.length_set, h]
def cvE (k : IntKind) (n : Int) : Option Eff := (some (PV.int k (k.wrap n))).bind fun v => some ⟨v, [], []⟩
theorem wrapU {n : Int} (h : 0 ≤ n ∧ n ≤ 9223372036854775807) : IntKind.u64.wrap n = n := by
  unfold IntKind.wrap
  simp [IntKind.signed, IntKind.bits]
  omega
theorem cvU_ok (n : Int) (h : 0 ≤ n ∧ n ≤ 9223372036854775807) : cvE .u64 n = some (vE (.int .u64 n)) := by
  unfold cvE
  rw [wrapU h]
  rfl
theorem cvI_ok (n : Int) (h : 0 ≤ n ∧ n ≤ 9223372036854775807) : cvE .i64 n = some (vE (.int .i64 n)) := by
  unfold cvE
  have := w64_of (n := n) (by omega)
  unfold w64 at this
  rw [this]
  rfl
def shE (k : IntKind) (a b : Int) : Option Eff := (bif decide (0 ≤ b) then some (PV.int k (a.fdiv (2 ^ (min b.toNat k.bits)))) else none).bind fun v => some ⟨v, [], []⟩
theorem sh_ok (n : Int) : shE .u64 n 1 = some (vE (.int .u64 (n / 2))) := by
  unfold shE
  have h : n.fdiv (2 ^ (min (1 : Int).toNat IntKind.u64.bits)) = n / 2 := by
    have e : ((2 : Int) ^ (min (1 : Int).toNat IntKind.u64.bits)) = 2 := by decide
    rw [e, Int.fdiv_eq_ediv_of_nonneg _ (by omega)]
  rw [h]
  rfl
end Go.Pv
end

section
/- A walk's hints and answers, each with its proof. -/
namespace Go.Pv
structure It where
  hint : Option (Nat × (Eff × Views))
  p : Prop
  pf : p
def hsOf : List It → HintsV
  | [] => []
  | x :: r => (match x.hint with | some h => h :: hsOf r | none => hsOf r)
def owOf : List It → List Prop
  | [] => []
  | x :: r => x.p :: owOf r
theorem metOf : ∀ l : List It, Met (owOf l)
  | [] => Met.nil
  | x :: r => Met.cons x.pf (metOf r)
structure An (G : Nat → Option Fun) where
  e : En
  r : Rs
  vw : Views
  pf : Tells G e r
def asOf {G : Nat → Option Fun} : List (An G) → List Ans
  | [] => []
  | x :: r => ⟨x.r, x.vw⟩ :: asOf r
def akOf {G : Nat → Option Fun} : List (An G) → Asked
  | [] => []
  | x :: r => (x.e, x.r) :: akOf r
theorem toldAn {G : Nat → Option Fun} : ∀ l : List (An G), Told G (akOf l)
  | [] => Told.nil
  | x :: r => Told.cons x.pf (toldAn r)
/-- a branch's bool -/
def hB {c v : Bool} (n : Nat) (h : c = v) : It := ⟨some (n, (bE v, [])), some (bE c) = some (bE v), dec c v h⟩
def hP {x : Option Eff} {y : Eff} (n : Nat) (h : x = some y) : It := ⟨some (n, (y, [])), x = some y, h⟩
def hV {x : Option Eff} {y : Eff} (n : Nat) (vw : Views) (h : x = some y) : It := ⟨some (n, (y, vw)), x = some y, h⟩
def hQ {p : Prop} (h : p) : It := ⟨none, p, h⟩
def aN {G : Nat → Option Fun} {e : En} {r : Rs} (h : Tells G e r) : An G := ⟨e, r, [], h⟩
def aV {G : Nat → Option Fun} {e : En} {r : Rs} (vw : Views) (h : Tells G e r) : An G := ⟨e, r, vw, h⟩
def aB {G : Nat → Option Fun} {e : En} {c v : Bool} (h : Tells G e (.ret (.bool c) [])) (hc : c = v) : An G := ⟨e, .ret (.bool v) [], [], hc ▸ h⟩
theorem vk1 {sz ro : Nat} {gr : Bool} {cells : List PV} {rows : List (List PV)} (h : ViewOK sz cells rows) : VOK (look (number 0 [⟨sz, ro, gr, cells⟩])) [(0, rows)] := VOK.cons (show Seen _ _ from seenV (ob := ⟨sz, ro, gr, cells⟩) h) VOK.nil
theorem tells_VI {G : Nat → Option Fun} {f : Nat} {fn : IFn} (hG : G f = some (.ir fn)) {args : List PV} {h : List Ob} {vw : Views} (hv : VOK (look (number 0 h)) vw) {r : Rs} (l : List It) (q : List (An G)) (ht : callV fn args h vw (hsOf l) (asOf q) = some (r, owOf l, akOf q)) : Tells G (.call f args h) r := tells_V hG hv (metOf l) (toldAn q) ht
theorem tells_nextVI {G : Nat → Option Fun} {m : Nat} {live : List Nat} {b : IR} {env : List PV} {h : List Ob} {vw : Views} (hv : VOK (look (number 0 h)) vw) {y : List PV × List Ob} {r : Rs} (l : List It) (q : List (An G)) (ht : nextV m live b env h vw (hsOf l) (asOf q) = some (y, owOf l, akOf q)) (hr : Tells G (.loop m live b y.1 y.2) r) : Tells G (.loop m live b env h) r := tells_nextV hv (metOf l) (toldAn q) ht hr
theorem tells_outVI {G : Nat → Option Fun} {m : Nat} {live : List Nat} {b : IR} {env : List PV} {h : List Ob} {vw : Views} (hv : VOK (look (number 0 h)) vw) {x : Ex × St} (l : List It) (q : List (An G)) (ht : leaveV m b env h vw (hsOf l) (asOf q) = some (x, owOf l, akOf q)) : Tells G (.loop m live b env h) (.st x.1 x.2) := tells_outV hv (metOf l) (toldAn q) ht
end Go.Pv
namespace Go.Pv
def hS {sz : Nat} {cells : List PV} {rows : List (List PV)} (ro : Nat) (gr : Bool) (h : ViewOK sz cells rows) : It := hQ (seenV (ob := ⟨sz, ro, gr, cells⟩) h)
end Go.Pv
end

section
/-
  What a law is handed, as plain Lean values.
-/
namespace Go.Pv
def okI (k : IntKind) (n : Int) : Prop := (Lit.int k n).wf = true
def okI64 (n : Int) : Prop := -9223372036854775808 ≤ n ∧ n ≤ 9223372036854775807
def okU8 (n : Int) : Prop := 0 ≤ n ∧ n ≤ 255
theorem okI.i64 {n : Int} (h : okI .i64 n) : okI64 n := by
  unfold okI at h
  simp [Lit.wf, IntKind.min, IntKind.max, IntKind.signed, IntKind.bits] at h
  exact h
theorem okI.u8 {n : Int} (h : okI .u8 n) : okU8 n := by
  unfold okI at h
  simp [Lit.wf, IntKind.min, IntKind.max, IntKind.signed, IntKind.bits] at h
  unfold okU8
  omega
def okS (s : ByteArray) : Prop := s.size ≤ 140737488351232
section
variable {Γ : Nat → Option Ty}
theorem OfL.uncons {f : Ty} {fs : List Ty} {c : List PV} (h : OfL Γ (f :: fs) c) : ∃ a b, c = a ++ b ∧ Of Γ f a ∧ OfL Γ fs b := by
  cases h with
  | cons _ _ a b h1 h2 => exact ⟨a, b, rfl, h1, h2⟩
theorem OfL.empty {c : List PV} (h : OfL Γ [] c) : c = [] := by cases h; rfl
theorem Of.str1 {c : List PV} (h : Of Γ .str c) : ∃ s, c = [.str s] ∧ okS s := by
  cases h with
  | str s h => exact ⟨s, rfl, h⟩
theorem Of.int1 {k : IntKind} {c : List PV} (h : Of Γ (.int k) c) : ∃ n, c = [.int k n] ∧ okI k n := by
  cases h with
  | int _ n h => exact ⟨n, rfl, h⟩
theorem Of.i64 {c : List PV} (h : Of Γ (.int .i64) c) : ∃ n, c = [.int .i64 n] ∧ okI64 n := by
  obtain ⟨n, h1, h2⟩ := h.int1
  exact ⟨n, h1, h2.i64⟩
theorem Of.u8 {c : List PV} (h : Of Γ (.int .u8) c) : ∃ n, c = [.int .u8 n] ∧ okU8 n := by
  obtain ⟨n, h1, h2⟩ := h.int1
  exact ⟨n, h1, h2.u8⟩
theorem Of.st1 {fs : List Ty} {c : List PV} (h : Of Γ (.st fs) c) : OfL Γ fs c := by
  cases h with
  | st _ _ h => exact h
theorem choose_rows {α : Type} {f : α → List PV} {ok : α → Prop} : ∀ (l : List (List PV)), (∀ r ∈ l, ∃ x, r = f x ∧ ok x) → ∃ xs : List α, l = xs.map f ∧ ∀ x ∈ xs, ok x
  | [], _ => ⟨[], rfl, fun _ h => absurd h List.not_mem_nil⟩
  | r :: rs, h => by
    obtain ⟨x, hx, hok⟩ := h r List.mem_cons_self
    obtain ⟨xs, hxs, hoks⟩ := choose_rows rs (fun q hq => h q (List.mem_cons_of_mem _ hq))
    refine ⟨x :: xs, by rw [hx, hxs]; rfl, fun y hy => ?_⟩
    rcases List.mem_cons.1 hy with rfl | hy
    · exact hok
    · exact hoks y hy
theorem Arg.one {ty : Ty} {p : PV} (h : Arg Γ ty p) (hs : ty.isSt Γ = false) : Of Γ ty [p] := by
  obtain ⟨c, hc, hp⟩ := h
  rw [hs] at hp
  have hp : c = [p] := hp
  subst hp
  exact hc
theorem Arg.agg {ty : Ty} {p : PV} (h : Arg Γ ty p) (hs : ty.isSt Γ = true) : ∃ c, p = .agg c ∧ Of Γ ty c := by
  obtain ⟨c, hc, hp⟩ := h
  rw [hs] at hp
  exact ⟨c, hp, hc⟩
end
end Go.Pv
end

section
/-
  Strings: equality and order.
-/
namespace Go.Pv
theorem toList_loop (b : ByteArray) : ∀ (n i : Nat) (acc : List UInt8), b.size - i = n → ByteArray.toList.loop b i acc = acc.reverse ++ b.data.toList.drop i := by
  intro n
  induction n with
  | zero =>
    intro i acc h
    unfold ByteArray.toList.loop
    have h1 : ¬ i < b.size := by omega
    rw [if_neg h1]
    have : b.data.toList.drop i = [] := by
      rw [List.drop_eq_nil_iff]
      have : b.data.toList.length = b.size := Array.length_toList
      omega
    rw [this, List.append_nil]
  | succ n ih =>
    intro i acc h
    unfold ByteArray.toList.loop
    have h1 : i < b.size := by omega
    rw [if_pos h1, ih (i + 1) _ (by omega)]
    have hl : i < b.data.toList.length := by rw [show b.data.toList.length = b.size from Array.length_toList]; exact h1
    rw [List.drop_eq_getElem_cons hl, List.reverse_cons, List.append_assoc]
    congr 1
    simp only [List.singleton_append, List.cons.injEq, and_true]
    have : b.data.size = b.size := rfl
    simp [ByteArray.get!, h1, this]
theorem toList_data (b : ByteArray) : b.toList = b.data.toList := by
  unfold ByteArray.toList
  rw [toList_loop b _ 0 [] rfl]
  simp
theorem toList_inj {a b : ByteArray} (h : a.toList = b.toList) : a = b := by
  rw [toList_data, toList_data] at h
  cases a
  cases b
  simp at h
  rw [h]
theorem sEq_iff {a b : ByteArray} : sEq a b = true ↔ a = b := by
  unfold sEq
  rw [beq_iff_eq]
  exact ⟨toList_inj, fun h => by rw [h]⟩
theorem sEq_dec (a b : ByteArray) : sEq a b = decide (a = b) := by
  rw [Bool.eq_iff_iff, sEq_iff]
  simp
mutual
inductive Val where
  | mk (kind n : Int) (s : ByteArray) (list : List Val) (fields : List Fld)
inductive Fld where
  | mk (name : ByteArray) (v : Val)
end
def Val.kind : Val → Int
  | .mk k _ _ _ _ => k
def Val.n : Val → Int
  | .mk _ n _ _ _ => n
def Val.s : Val → ByteArray
  | .mk _ _ s _ _ => s
def Val.list : Val → List Val
  | .mk _ _ _ l _ => l
def Val.fields : Val → List Fld
  | .mk _ _ _ _ f => f
def Fld.name : Fld → ByteArray
  | .mk n _ => n
def Fld.v : Fld → Val
  | .mk _ v => v
theorem Val.eta (v : Val) : Val.mk v.kind v.n v.s v.list v.fields = v := by cases v; rfl
theorem Fld.eta (f : Fld) : Fld.mk f.name f.v = f := by cases f; rfl
mutual
def Val.cs : Val → List PV
  | .mk k n s l f => [.int .i64 k, .int .i64 n, .str s, .sl (Val.css l), .sl (Fld.css f)]
def Val.css : List Val → List (List PV)
  | [] => []
  | v :: r => v.cs :: Val.css r
def Fld.css : List Fld → List (List PV)
  | [] => []
  | f :: r => f.cs :: Fld.css r
def Fld.cs : Fld → List PV
  | .mk n v => .str n :: v.cs
end
def Val.rows (l : List Val) : List (List PV) := Val.css l
def Fld.rows (l : List Fld) : List (List PV) := Fld.css l
def Val.cells (v : Val) : List PV := [.int .i64 v.kind, .int .i64 v.n, .str v.s, .sl (Val.rows v.list), .sl (Fld.rows v.fields)]
def Fld.cells (f : Fld) : List PV := [.str f.name, .int .i64 f.v.kind, .int .i64 f.v.n, .str f.v.s, .sl (Val.rows f.v.list), .sl (Fld.rows f.v.fields)]
theorem Val.cs_eq (v : Val) : v.cs = v.cells := by cases v; rfl
theorem Fld.cs_eq (f : Fld) : f.cs = f.cells := by
  cases f with
  | mk n v => cases v; rfl
theorem Val.rowsCons (v : Val) (l : List Val) : Val.rows (v :: l) = v.cells :: Val.rows l := by
  rw [← Val.cs_eq]
  rfl
theorem Fld.rowsCons (v : Fld) (l : List Fld) : Fld.rows (v :: l) = v.cells :: Fld.rows l := by
  rw [← Fld.cs_eq]
  rfl
theorem Val.rowsMap : ∀ l : List Val, Val.rows l = l.map Val.cells
  | [] => rfl
  | v :: r => by rw [Val.rowsCons, Val.rowsMap r]; rfl
theorem Fld.rowsMap : ∀ l : List Fld, Fld.rows l = l.map Fld.cells
  | [] => rfl
  | v :: r => by rw [Fld.rowsCons, Fld.rowsMap r]; rfl
theorem Val.rowsLen (l : List Val) : (Val.rows l).length = l.length := by simp [Val.rowsMap]
theorem Fld.rowsLen (l : List Fld) : (Fld.rows l).length = l.length := by simp [Fld.rowsMap]
theorem Val.rowsGet {l : List Val} {i : Nat} {x : Val} (h : l[i]? = some x) : (Val.rows l)[i]? = some (Val.cells x) := by rw [Val.rowsMap]; exact Go.Pv.rowsGet h
theorem Fld.rowsGet {l : List Fld} {i : Nat} {x : Fld} (h : l[i]? = some x) : (Fld.rows l)[i]? = some (Fld.cells x) := by rw [Fld.rowsMap]; exact Go.Pv.rowsGet h
theorem Val.rowsSnoc (l : List Val) (x : Val) : Val.rows (l ++ [x]) = Val.rows l ++ [Val.cells x] := by simp [Val.rowsMap]
theorem Fld.rowsSnoc (l : List Fld) (x : Fld) : Fld.rows (l ++ [x]) = Fld.rows l ++ [Fld.cells x] := by simp [Fld.rowsMap]
theorem Val.rowsTake (l : List Val) (n : Nat) : Val.rows (l.take n) = (Val.rows l).take n := by simp [Val.rowsMap, List.map_take]
theorem Fld.rowsTake (l : List Fld) (n : Nat) : Fld.rows (l.take n) = (Fld.rows l).take n := by simp [Fld.rowsMap, List.map_take]
theorem Val.rowsSize (l : List Val) : ∀ r ∈ Val.rows l, r.length = 5 := by rw [Val.rowsMap]; exact mapSize (f := Val.cells) (fun _ => rfl) l
theorem Fld.rowsSize (l : List Fld) : ∀ r ∈ Fld.rows l, r.length = 6 := by rw [Fld.rowsMap]; exact mapSize (f := Fld.cells) (fun _ => rfl) l
theorem Val.rowsView (l : List Val) (sz : Nat) (h : sz = 5) : ViewOK sz (Val.rows l).flatten (Val.rows l) := by subst h; exact ⟨rfl, Val.rowsSize l, by rw [Val.rowsMap]; exact mapPlain (f := Val.cells) (fun _ => rfl) l⟩
theorem Fld.rowsView (l : List Fld) (sz : Nat) (h : sz = 6) : ViewOK sz (Fld.rows l).flatten (Fld.rows l) := by subst h; exact ⟨rfl, Fld.rowsSize l, by rw [Fld.rowsMap]; exact mapPlain (f := Fld.cells) (fun _ => rfl) l⟩
theorem Val.lt_list (v : Val) : SizeOf.sizeOf v.list < SizeOf.sizeOf v := by
  cases v with
  | mk k n s l f => simp only [Val.list, Val.mk.sizeOf_spec]; omega
theorem Val.lt_fields (v : Val) : SizeOf.sizeOf v.fields < SizeOf.sizeOf v := by
  cases v with
  | mk k n s l f => simp only [Val.fields, Val.mk.sizeOf_spec]; omega
theorem Fld.lt_v (f : Fld) : SizeOf.sizeOf f.v < SizeOf.sizeOf f := by
  cases f with
  | mk n v => simp only [Fld.v, Fld.mk.sizeOf_spec]; omega
theorem szL {v x : Val} {i : Nat} (h : v.list[i]? = some x) : SizeOf.sizeOf x < SizeOf.sizeOf v :=
  Nat.lt_trans (List.sizeOf_lt_of_mem (mem_get h)) v.lt_list
theorem szF {v : Val} {x : Fld} {i : Nat} (h : v.fields[i]? = some x) : SizeOf.sizeOf x.v < SizeOf.sizeOf v :=
  Nat.lt_trans x.lt_v (Nat.lt_trans (List.sizeOf_lt_of_mem (mem_get h)) v.lt_fields)
/-- every list within is of at most B elements -/
inductive Val.Sm (B : Nat) : Val → Prop
  | mk (v : Val) (hl : v.list.length ≤ B) (hf : v.fields.length ≤ B) (sl : ∀ x ∈ v.list, Val.Sm B x) (sf : ∀ x ∈ v.fields, Val.Sm B x.v) : Val.Sm B v
theorem Val.Sm.all {B : Nat} {v : Val} (h : Val.Sm B v) : v.list.length ≤ B ∧ v.fields.length ≤ B ∧ (∀ x ∈ v.list, Val.Sm B x) ∧ (∀ x ∈ v.fields, Val.Sm B x.v) := by
  cases h with
  | mk _ h1 h2 h3 h4 => exact ⟨h1, h2, h3, h4⟩
theorem Val.Sm.mono {B C : Nat} (hb : B ≤ C) {v : Val} (h : Val.Sm B v) : Val.Sm C v := by
  induction h with
  | mk v h1 h2 _ _ i1 i2 => exact .mk v (by omega) (by omega) i1 i2
theorem Val.Sm.leaf {B : Nat} (k n : Int) (s : ByteArray) : Val.Sm B (.mk k n s [] []) := .mk _ (Nat.zero_le _) (Nat.zero_le _) (fun _ h => by cases h) (fun _ h => by cases h)
theorem Val.Sm.getD {B : Nat} {l : List Val} (h : ∀ x ∈ l, Val.Sm B x) (i : Nat) (k n : Int) (s : ByteArray) : Val.Sm B (l.getD i (.mk k n s [] [])) := by
  by_cases c : i < l.length
  · have := getD_ok l i (.mk k n s [] []) c
    exact h _ (mem_get this)
  · rw [List.getD_eq_getElem?_getD, List.getElem?_eq_none (by omega)]
    exact .leaf k n s
theorem Val.Sm.getF {B : Nat} {l : List Fld} (h : ∀ x ∈ l, Val.Sm B x.v) (i : Nat) (m : ByteArray) (k n : Int) (s : ByteArray) : Val.Sm B (l.getD i (.mk m (.mk k n s [] []))).v := by
  by_cases c : i < l.length
  · have := getD_ok l i (.mk m (.mk k n s [] [])) c
    exact h _ (mem_get this)
  · rw [List.getD_eq_getElem?_getD, List.getElem?_eq_none (by omega)]
    exact .leaf k n s
/-- what is known of a tree that a law is handed -/
inductive Val_ok : Val → Prop
  | mk (v : Val) (h1 : okI64 v.kind) (h2 : okI64 v.n) (h3 : okS v.s) (hl : v.list.length * 80 ≤ 140737488351232) (hf : v.fields.length * 96 ≤ 140737488351232) (sl : ∀ x ∈ v.list, Val_ok x) (sn : ∀ x ∈ v.fields, okS x.name) (sf : ∀ x ∈ v.fields, Val_ok x.v) : Val_ok v
def Fld_ok (f : Fld) : Prop := okS f.name ∧ Val_ok f.v
theorem Val_ok.all {v : Val} (h : Val_ok v) : okI64 v.kind ∧ okI64 v.n ∧ okS v.s ∧ v.list.length * 80 ≤ 140737488351232 ∧ v.fields.length * 96 ≤ 140737488351232 ∧ (∀ x ∈ v.list, Val_ok x) ∧ (∀ x ∈ v.fields, okS x.name ∧ Val_ok x.v) := by
  cases h with
  | mk _ a b c d e f n g => exact ⟨a, b, c, d, e, f, fun x hx => ⟨n x hx, g x hx⟩⟩
theorem Val_ok.sm {v : Val} (h : Val_ok v) : Val.Sm 4611686018427387904 v := by
  induction h with
  | mk v _ _ _ hl hf _ _ _ i1 i2 => exact .mk v (by omega) (by omega) i1 i2
def Val_body (t : Nat) : Ty := .st [.int .i64, .int .i64, .str, .sl 80 (.nm t), .sl 96 (.st [.str, .nm t])]
theorem Val_openN {Γ : Nat → Option Ty} {t : Nat} (hΓ : Γ t = some (Val_body t)) : ∀ (k : Nat) (c : List PV), SizeOf.sizeOf c < k → Of Γ (.nm t) c → ∃ v : Val, c = v.cells ∧ Val_ok v
  | 0, _, h, _ => absurd h (Nat.not_lt_zero _)
  | k + 1, c, hk, h => by
    have hb : Of Γ (Val_body t) c := by
      cases h with
      | nm _ ty _ hg h =>
        rw [hΓ] at hg
        injection hg with hg
        subst hg
        exact h
    have g0 := hb.st1
    obtain ⟨a0, b0, rfl, h0, g1⟩ := g0.uncons
    obtain ⟨x0, rfl, k0⟩ := h0.i64
    obtain ⟨a1, b1, rfl, h1, g2⟩ := g1.uncons
    obtain ⟨x1, rfl, k1⟩ := h1.i64
    obtain ⟨a2, b2, rfl, h2, g3⟩ := g2.uncons
    obtain ⟨x2, rfl, k2⟩ := h2.str1
    obtain ⟨a3, b3, rfl, h3, g4⟩ := g3.uncons
    obtain ⟨a4, b4, rfl, h4, g5⟩ := g4.uncons
    have e := g5.empty
    subst e
    cases h3 with
    | sl _ _ l3 hl3 hr3 =>
    cases h4 with
    | sl _ _ l4 hl4 hr4 =>
    have s3 : SizeOf.sizeOf l3 < k := by simp at hk; omega
    have s4 : SizeOf.sizeOf l4 < k := by simp at hk; omega
    obtain ⟨x3, rfl, k3⟩ := choose_rows (f := Val.cells) (ok := Val_ok) l3 (fun r hr' => Val_openN hΓ k r (by have := List.sizeOf_lt_of_mem hr'; omega) (hr3 r hr'))
    obtain ⟨x4, rfl, k4⟩ := choose_rows (f := Fld.cells) (ok := Fld_ok) l4 (fun r hr' => by
      have q0 := (hr4 r hr').st1
      obtain ⟨c0, d0, rfl, i0, q1⟩ := q0.uncons
      obtain ⟨y0, rfl, m0⟩ := i0.str1
      obtain ⟨c1, d1, rfl, i1, q2⟩ := q1.uncons
      have e := q2.empty
      subst e
      obtain ⟨y1, rfl, m1⟩ := Val_openN hΓ k c1 (by have := List.sizeOf_lt_of_mem hr'; simp at this; omega) i1
      exact ⟨.mk y0 y1, by simp [Fld.cells, Val.cells, Fld.name, Fld.v], m0, m1⟩)
    rw [List.length_map] at hl3 hl4
    refine ⟨.mk x0 x1 x2 x3 x4, ?_, .mk _ k0 k1 k2 hl3 hl4 k3 (fun x hx => (k4 x hx).1) (fun x hx => (k4 x hx).2)⟩
    simp [Val.cells, Val.kind, Val.n, Val.s, Val.list, Val.fields, Val.rowsMap, Fld.rowsMap]
theorem Val_open {Γ : Nat → Option Ty} {t : Nat} (hΓ : Γ t = some (Val_body t)) {c : List PV} (h : Of Γ (.nm t) c) : ∃ v : Val, c = v.cells ∧ Val_ok v := Val_openN hΓ _ c (Nat.lt_succ_self _) h
theorem lt_head {α : Type} [SizeOf α] (x : α) (r : List α) : SizeOf.sizeOf x < SizeOf.sizeOf (x :: r) := by
  simp only [List.cons.sizeOf_spec]
  omega
theorem lt_tail {α : Type} [SizeOf α] (x : α) (r : List α) : SizeOf.sizeOf r < SizeOf.sizeOf (x :: r) := by
  simp only [List.cons.sizeOf_spec]
  omega
theorem lt_headv (x : Fld) (r : List Fld) : SizeOf.sizeOf x.v < SizeOf.sizeOf (x :: r) := Nat.lt_trans x.lt_v (lt_head x r)
def gam (t : Nat) : Nat → Option Ty := fun k => bif Nat.beq k t then some (Val_body t) else none
theorem gam_at (t : Nat) : gam t t = some (Val_body t) := by simp [gam]
theorem gam_tab {P : Program} {t : Nat} (h : chkTy P (gam t) (Val_body t) t = true) : TabOK P (gam t) := by
  intro k ty hk
  unfold gam at hk
  cases c : Nat.beq k t with
  | false => rw [c] at hk; cases hk
  | true =>
    rw [c] at hk
    simp only [cond_true, Option.some.injEq] at hk
    subst hk
    rw [Nat.eq_of_beq_eq_true c]
    exact ⟨rfl, h⟩
end Go.Pv
namespace Go.Pv
end Go.Pv
end

section
/- Strings byte by byte; rows that are cloned. -/
namespace Go.Pv
def letters (s : ByteArray) : List Int := s.data.toList.map fun b => (b.toNat : Int)
theorem lettersLen (s : ByteArray) : (letters s).length = s.size := by
  unfold letters
  rw [List.length_map, Array.length_toList]
  rfl
def sixE (s : ByteArray) (i : Int) : Option Eff := (opP (fun _ => .un) (.index (.c (.str s)) (.c (.int .i64 i)))).bind fun v => some ⟨v, [], []⟩
theorem six_ok (s : ByteArray) (i : Nat) (x : Int) (h : (letters s)[i]? = some x) : sixE s (i : Int) = some (vE (.int .u8 x)) := by
  unfold sixE
  simp only [opP, Opd.ev, asNat]
  rw [show decide (0 ≤ (i : Int)) = true by simp]
  simp only [cond_true, Option.bind_some, Int.toNat_natCast]
  unfold letters at h
  rw [List.getElem?_map, Array.getElem?_toList] at h
  cases e : s.data[i]? with
  | none => rw [e] at h; cases h
  | some b =>
    rw [e] at h
    injection h with h
    subst h
    rfl
theorem plain_bare : ∀ p, plain p = true → bare p = true := fun p h => by cases p <;> first | rfl | (cases h)
theorem tells_clone {G : Nat → Option Fun} {f sz bytes : Nat} (hG : G f = some (.ax (cloneF sz bytes))) {rows : List (List PV)} {n : Nat} (hn : rows.length = n) (hv : ViewOK sz rows.flatten rows) (hb : n * bytes ≤ 140737488355328) :
    Tells G (.call f [.sl rows] []) (.ret (.ms 0 sz 0 n) [⟨sz, 0, true, rows.flatten⟩]) := by
  refine ⟨1, ?_⟩
  subst hn
  simp only [runs, phi, hG, cloneF]
  have h1 : rowsSz rows sz = true := rowsSz_ok hv.size
  have h2 : rows.flatten.all bare = true := List.all_eq_true.2 fun p hp => plain_bare p (hv.all p hp)
  rw [h1, h2, Nat.ble_eq_true_of_le hb]
  rfl
end Go.Pv
namespace Go.Pv
theorem szM {v x : Val} (h : x ∈ v.list) : SizeOf.sizeOf x < SizeOf.sizeOf v := Nat.lt_trans (List.sizeOf_lt_of_mem h) v.lt_list
theorem szN {v : Val} {x : Fld} (h : x ∈ v.fields) : SizeOf.sizeOf x.v < SizeOf.sizeOf v := Nat.lt_trans x.lt_v (Nat.lt_trans (List.sizeOf_lt_of_mem h) v.lt_fields)
end Go.Pv
end

section
/-
  What a law is handed, where its bulk is bounded: nothing within is longer.
-/
namespace Go.Pv
open Go.RowKit
/-- nothing within is longer than N -/
inductive Cap (N : Nat) : PV → Prop
  | bool (b : Bool) : Cap N (.bool b)
  | int (k : IntKind) (n : Int) : Cap N (.int k n)
  | str (s : ByteArray) (h : s.size ≤ N) : Cap N (.str s)
  | sl (l : List (List PV)) (h : l.length ≤ N) (hl : ∀ r ∈ l, ∀ p ∈ r, Cap N p) : Cap N (.sl l)
def CapL (N : Nat) (c : List PV) : Prop := ∀ p ∈ c, Cap N p
theorem CapL.one {N : Nat} {p : PV} (h : Cap N p) : CapL N [p] := fun q hq => by
  rw [List.mem_singleton] at hq
  subst hq
  exact h
inductive CapD {H : Type} (N : Nat) : DataW H → Prop
  | lit (l : Lit) (h : ∀ b, l = .string b → b.length ≤ N) : CapD N (.lit l)
  | agg (parts : List (DataW H)) (h : ∀ d ∈ parts, CapD N d) : CapD N (.agg parts)
  | slice (elems spare : List (DataW H)) (h : elems.length ≤ N) (hl : ∀ d ∈ elems, CapD N d) : CapD N (.slice elems spare)
  | nil : CapD N .nil
  | ptr (d : DataW H) : CapD N (.ptr d)
  | iface (t : String) (d : DataW H) : CapD N (.iface t d)
  | map (e : List (Lit × DataW H)) : CapD N (.map e)
  | held (h : H) : CapD N (.held h)
def ArgB (Γ : Nat → Option Ty) (N : Nat) (ty : Ty) (p : PV) : Prop := ∃ c, Of Γ ty c ∧ CapL N c ∧ (bif ty.isSt Γ then p = .agg c else c = [p])
section
variable {H : Type} {enc : TypeId × Value → H} {P : Program} {w : World} {base : Nat} {sp : Nat → Bool} {held : Bool} {Γ : Nat → Option Ty} {N : Nat}
end
theorem ArgB.one {Γ : Nat → Option Ty} {N : Nat} {ty : Ty} {p : PV} (h : ArgB Γ N ty p) (hs : ty.isSt Γ = false) : Of Γ ty [p] ∧ CapL N [p] := by
  obtain ⟨c, hc, hb, hp⟩ := h
  rw [hs] at hp
  have hp : c = [p] := hp
  subst hp
  exact ⟨hc, hb⟩
theorem ArgB.agg {Γ : Nat → Option Ty} {N : Nat} {ty : Ty} {p : PV} (h : ArgB Γ N ty p) (hs : ty.isSt Γ = true) : ∃ c, p = .agg c ∧ Of Γ ty c ∧ CapL N c := by
  obtain ⟨c, hc, hb, hp⟩ := h
  rw [hs] at hp
  exact ⟨c, hp, hc, hb⟩
end Go.Pv
end

section
/- What the functions of the chapter on values compute (printed by a program). -/
namespace Go.Proofs.Ytedohmdgbilicaa
open Go.Pv
abbrev G : Nat → Option Fun := tabG Ir.table
abbrev Γ : Nat → Option Ty := gam 25
theorem t_cmpstr (a b : ByteArray) : Tells G (.call 62 [.str a, .str b] []) (.ret (.int .i64 (sCmp a b)) []) := ⟨1, by kernel_rfl⟩
inductive R_Ks_b1 where
  | k0 (q0 : Int)
  | k1
mutual
def s_Ks (p0 : Val) (p1 : Int) (p2 : Int) : Int :=
  bif (decide (p1 ≤ 0)) then
    (-1)
  else
    bif (decide (p2 ≤ 0)) then
      (-1)
    else
      bif (decide (1000 < (ByteArray.size p0.s : Int))) then
        (-1)
      else
        (match (l_Ks_b1 p0 p2 p0.fields 0 (l_Ks_b0 p0 p2 p0.list 0 (w64 (p1 - 1)))) with
        | .k0 y4_0 => y4_0
        | .k1 => (-1))
termination_by SizeOf.sizeOf p0
decreasing_by all_goals first | exact Val.lt_list _ | exact Val.lt_fields _ | exact lt_head _ _ | exact lt_tail _ _ | exact lt_headv _ _
def l_Ks_b0 (p0 : Val) (p2 : Int) : List Val → Nat → Int → Int
  | [], _i0, v0_1 =>
    v0_1
  | x0 :: r0, i0, v0_1 =>
    bif (decide (0 ≤ v0_1)) then
      l_Ks_b0 p0 p2 r0 (i0 + 1) (s_Ks x0 v0_1 (w64 (p2 - 1)))
    else
      v0_1
termination_by l => SizeOf.sizeOf l
decreasing_by all_goals first | exact Val.lt_list _ | exact Val.lt_fields _ | exact lt_head _ _ | exact lt_tail _ _ | exact lt_headv _ _
def l_Ks_b1 (p0 : Val) (p2 : Int) : List Fld → Nat → Int → R_Ks_b1
  | [], _i1, v1_1 =>
    (.k0 v1_1)
  | x1 :: r1, i1, v1_1 =>
    bif (decide (0 ≤ v1_1)) then
      bif (decide (1000 < (ByteArray.size x1.name : Int))) then
        (.k1)
      else
        l_Ks_b1 p0 p2 r1 (i1 + 1) (s_Ks x1.v v1_1 (w64 (p2 - 1)))
    else
      (.k0 v1_1)
termination_by l => SizeOf.sizeOf l
decreasing_by all_goals first | exact Val.lt_list _ | exact Val.lt_fields _ | exact lt_head _ _ | exact lt_tail _ _ | exact lt_headv _ _
end
def HE_Ks_b0 (_p0 : Val) (p2 : Int) (i0 : Nat) (v0_1 : Int) : List PV :=
  [.un, .int .i64 v0_1, .int .i64 p2, .bx 0 0, .un, .un, .un, .int .i64 (i0 : Int), .un, .un, .un, .un, .un, .un, .un, .un, .un, .un, .un, .un, .un, .un, .un, .un, .un, .un, .un, .un, .un, .un, .un, .un, .un, .un, .un, .un, .un, .un, .un, .un, .un, .un, .un, .un, .un, .un, .un, .un, .un, .un, .un, .un, .un, .un, .un, .un, .un, .un, .un, .un, .un, .un, .un, .un, .un, .un, .un, .un, .un, .un, .un, .un, .un]
def HO_Ks_b0 (p0 : Val) (_p2 : Int) (_i0 : Nat) (_v0_1 : Int) : List Ob :=
  [⟨5, 0, true, [.int .i64 p0.kind, .int .i64 p0.n, .str p0.s, .sl (Val.rows p0.list), .sl (Fld.rows p0.fields)]⟩]
def E_Ks_b0 (p0 : Val) (p2 : Int) (i0 : Nat) (v0_1 : Int) : En := .loop 0 Ir.Ks_b0_live Ir.Ks_b0 (HE_Ks_b0 p0 p2 i0 v0_1) (HO_Ks_b0 p0 p2 i0 v0_1)
def S_Ks_b0_0 (p0 : Val) (p2 : Int) (q0 : Int) (z : Nat → PV) (_zo : Nat → List PV) : St :=
  ⟨[z 0, .int .i64 q0, .int .i64 p2, .bx 0 0, z 4, z 5, z 6, z 7, z 8, z 9, z 10, z 11, z 12, z 13, z 14, z 15, z 16, z 17, z 18, z 19, z 20, z 21, z 22, z 23, z 24, z 25, z 26, z 27, z 28, z 29, z 30, z 31, z 32, z 33, z 34, z 35, z 36, z 37, z 38, z 39, z 40, z 41, z 42, z 43, z 44, z 45, z 46, z 47, z 48, z 49, z 50, z 51, z 52, z 53, z 54, z 55, z 56, z 57, z 58, z 59, z 60, z 61, z 62, z 63, z 64, z 65, z 66, z 67, z 68, z 69, z 70, z 71, z 72], [(0, ⟨5, 0, true, [.int .i64 p0.kind, .int .i64 p0.n, .str p0.s, .sl (Val.rows p0.list), .sl (Fld.rows p0.fields)]⟩)], 577⟩
def P_Ks_b0 (p0 : Val) (p2 : Int) (e : En) (q : Int) : Prop := ∃ z zo, Tells G e (.st (.exit 0) (S_Ks_b0_0 p0 p2 q z zo))
theorem P_Ks_b0_mono (p0 : Val) (p2 : Int) {e e' : En} (h : ∀ r, Tells G e r → Tells G e' r) : ∀ q, P_Ks_b0 p0 p2 e q → P_Ks_b0 p0 p2 e' q
  | _, ⟨z, zo, hz⟩ => ⟨z, zo, h _ hz⟩
def HE_Ks_b1 (_p0 : Val) (p2 : Int) (i1 : Nat) (v1_1 : Int) : List PV :=
  [.un, .int .i64 v1_1, .int .i64 p2, .bx 0 0, .un, .un, .un, .un, .int .i64 (i1 : Int), .un, .un, .un, .un, .un, .un, .un, .un, .un, .un, .un, .un, .un, .un, .un, .un, .un, .un, .un, .un, .un, .un, .un, .un, .un, .un, .un, .un, .un, .un, .un, .un, .un, .un, .un, .un, .un, .un, .un, .un, .un, .un, .un, .un, .un, .un, .un, .un, .un, .un, .un, .un, .un, .un, .un, .un, .un, .un, .un, .un, .un, .un, .un, .un]
def HO_Ks_b1 (p0 : Val) (_p2 : Int) (_i1 : Nat) (_v1_1 : Int) : List Ob :=
  [⟨5, 0, true, [.int .i64 p0.kind, .int .i64 p0.n, .str p0.s, .sl (Val.rows p0.list), .sl (Fld.rows p0.fields)]⟩]
def E_Ks_b1 (p0 : Val) (p2 : Int) (i1 : Nat) (v1_1 : Int) : En := .loop 0 Ir.Ks_b1_live Ir.Ks_b1 (HE_Ks_b1 p0 p2 i1 v1_1) (HO_Ks_b1 p0 p2 i1 v1_1)
def S_Ks_b1_0 (p0 : Val) (_p2 : Int) (q0 : Int) (z : Nat → PV) (_zo : Nat → List PV) : St :=
  ⟨[z 0, .int .i64 q0, z 2, z 3, z 4, z 5, z 6, z 7, z 8, z 9, z 10, z 11, z 12, z 13, z 14, z 15, z 16, z 17, z 18, z 19, z 20, z 21, z 22, z 23, z 24, z 25, z 26, z 27, z 28, z 29, z 30, z 31, z 32, z 33, z 34, z 35, z 36, z 37, z 38, z 39, z 40, z 41, z 42, z 43, z 44, z 45, z 46, z 47, z 48, z 49, z 50, z 51, z 52, z 53, z 54, z 55, z 56, z 57, z 58, z 59, z 60, z 61, z 62, z 63, z 64, z 65, z 66, z 67, z 68, z 69, z 70, z 71, z 72], [(0, ⟨5, 0, true, [.int .i64 p0.kind, .int .i64 p0.n, .str p0.s, .sl (Val.rows p0.list), .sl (Fld.rows p0.fields)]⟩)], 577⟩
def S_Ks_b1_1 (_p0 : Val) (_p2 : Int) (z : Nat → PV) (zo : Nat → List PV) : St :=
  ⟨[z 0, z 1, z 2, z 3, z 4, z 5, .int .i64 (-1), z 7, z 8, z 9, z 10, z 11, z 12, z 13, z 14, z 15, z 16, z 17, z 18, z 19, z 20, z 21, z 22, z 23, z 24, z 25, z 26, z 27, z 28, z 29, z 30, z 31, z 32, z 33, z 34, z 35, z 36, z 37, z 38, z 39, z 40, z 41, z 42, z 43, z 44, z 45, z 46, z 47, z 48, z 49, z 50, z 51, z 52, z 53, z 54, z 55, z 56, z 57, z 58, z 59, z 60, z 61, z 62, z 63, z 64, z 65, z 66, z 67, z 68, z 69, z 70, z 71, z 72], [(0, ⟨5, 0, true, zo 0⟩)], 1153⟩
def P_Ks_b1 (p0 : Val) (p2 : Int) (e : En) : R_Ks_b1 → Prop
  | .k0 q0 => ∃ z zo, Tells G e (.st (.exit 2) (S_Ks_b1_0 p0 p2 q0 z zo))
  | .k1 => ∃ z zo, Tells G e (.st .ret (S_Ks_b1_1 p0 p2 z zo))
theorem P_Ks_b1_mono (p0 : Val) (p2 : Int) {e e' : En} (h : ∀ r, Tells G e r → Tells G e' r) : ∀ q, P_Ks_b1 p0 p2 e q → P_Ks_b1 p0 p2 e' q
  | .k0 _, ⟨z, zo, hz⟩ => ⟨z, zo, h _ hz⟩
  | .k1, ⟨z, zo, hz⟩ => ⟨z, zo, h _ hz⟩
def c_Ks (p0 : Val) (p1 : Int) (p2 : Int) : En := .call 56 [.agg (Val.cells p0), .int .i64 p1, .int .i64 p2] []
def a_Ks (p0 : Val) (p1 : Int) (p2 : Int) : Rs := .ret (.int .i64 (s_Ks p0 p1 p2)) []
abbrev H_Ks (p0 : Val) : Prop := Val.Sm 4611686018427387904 p0
def Rec_Ks (p0 : Val) : Prop := ∀ (q : Val), SizeOf.sizeOf q < SizeOf.sizeOf p0 → ∀ (p1 : Int), ∀ (p2 : Int), H_Ks q → Tells G (c_Ks q p1 p2) (a_Ks q p1 p2)
def H_Ks_b0 (p0 : Val) (_p2 : Int) : Prop := (List.length p0.list ≤ 4611686018427387904) ∧ (∀ x0 ∈ p0.list, H_Ks x0) ∧ True
def H_Ks_b1 (p0 : Val) (_p2 : Int) : Prop := (List.length p0.fields ≤ 4611686018427387904) ∧ (∀ x1 ∈ p0.fields, H_Ks x1.v) ∧ True
theorem give_Ks (p0 : Val) (_p1 : Int) (p2 : Int) (H : H_Ks p0) : (H_Ks_b0 p0 p2) ∧ (H_Ks_b1 p0 p2) ∧ True := by
  obtain ⟨h1, h2, h3, h4⟩ := H.all
  simp only [H_Ks_b0, H_Ks_b1]
  exact ⟨⟨h1, h3, trivial⟩, ⟨h2, h4, trivial⟩, trivial⟩
def Z_Ks_b0_0 (p0 : Val) (_p2 : Int) (i0 : Nat) (_v0_1 : Int) : List PV :=
  [.un, .un, .un, .un, .un, .un, .un, .int .i64 (i0 : Int), .un, .un, .un, .un, .un, .un, .un, .un, .un, .un, .un, .un, .un, .un, .un, .int .i64 (i0 : Int), .bx 0 3, .sl (Val.rows p0.list), .int .i64 ((List.length p0.list) : Int), .bool false, .bool false, .tup [], .tup [], .bool false]
def ZO_Ks_b0_0 (_p0 : Val) (_p2 : Int) (_i0 : Nat) (_v0_1 : Int) : List (Nat × List PV) :=
  []
theorem x_Ks_b0_0 (p0 : Val) (p2 : Int) (_H : H_Ks_b0 p0 p2) (_rec : Rec_Ks p0) (i0 : Nat) (v0_1 : Int) (hc0 : (decide ((i0 : Int) < ((List.length p0.list) : Int))) = false) : P_Ks_b0 p0 p2 (E_Ks_b0 p0 p2 i0 v0_1) v0_1 := by
  exact ⟨(envF (Z_Ks_b0_0 p0 p2 i0 v0_1)), (zoF (ZO_Ks_b0_0 p0 p2 i0 v0_1)), tells_outVI VOK.nil (x := ((.exit 0), S_Ks_b0_0 p0 p2 v0_1 (envF (Z_Ks_b0_0 p0 p2 i0 v0_1)) (zoF (ZO_Ks_b0_0 p0 p2 i0 v0_1)))) [hP 3 (len_ok (Val.rows p0.list) (List.length p0.list) (Val.rowsLen p0.list)), hB 0 hc0] [] (by kernel_rfl)⟩
theorem n_Ks_b0_1 (p0 : Val) (p2 : Int) (H : H_Ks_b0 p0 p2) (rec : Rec_Ks p0) (x0 : Val) (i0 : Nat) (v0_1 : Int) (hx0 : p0.list[i0]? = some x0) (hi0 : i0 < List.length p0.list) (hc0 : (decide ((i0 : Int) < ((List.length p0.list) : Int))) = true) (h0 : (decide (0 ≤ v0_1)) = true) {r : Rs} (hr : Tells G (E_Ks_b0 p0 p2 (i0 + 1) (s_Ks x0 v0_1 (w64 (p2 - 1)))) r) : Tells G (E_Ks_b0 p0 p2 i0 v0_1) r := by
  have hB0 := H.1; have e0 := of_decide_eq_true h0
  exact tells_nextVI VOK.nil (y := (HE_Ks_b0 p0 p2 (i0 + 1) (s_Ks x0 v0_1 (w64 (p2 - 1))), HO_Ks_b0 p0 p2 (i0 + 1) (s_Ks x0 v0_1 (w64 (p2 - 1))))) [hP 3 (len_ok (Val.rows p0.list) (List.length p0.list) (Val.rowsLen p0.list)), hB 0 hc0, hB 2 h0, hP 4 (ix_ok 5 (Val.rows p0.list) i0 _ (Val.rowsGet hx0) rfl), hP 7 (inc_ok i0 (by omega))] [aN (rec x0 (szL hx0) v0_1 (w64 (p2 - 1)) (H.2.1 x0 (mem_get hx0)))] (by kernel_rfl) hr
def Z_Ks_b0_2 (p0 : Val) (_p2 : Int) (i0 : Nat) (v0_1 : Int) (_x0 : Val) : List PV :=
  [.un, .un, .un, .un, .un, .un, .un, .int .i64 (i0 : Int), .un, .un, .un, .un, .un, .un, .un, .un, .un, .un, .un, .un, .un, .un, .un, .int .i64 (i0 : Int), .bx 0 3, .sl (Val.rows p0.list), .int .i64 ((List.length p0.list) : Int), .bool true, .bool true, .int .i64 v0_1, .bool false, .bool false]
def ZO_Ks_b0_2 (_p0 : Val) (_p2 : Int) (_i0 : Nat) (_v0_1 : Int) (_x0 : Val) : List (Nat × List PV) :=
  []
theorem x_Ks_b0_2 (p0 : Val) (p2 : Int) (_H : H_Ks_b0 p0 p2) (_rec : Rec_Ks p0) (x0 : Val) (i0 : Nat) (v0_1 : Int) (_hx0 : p0.list[i0]? = some x0) (_hi0 : i0 < List.length p0.list) (hc0 : (decide ((i0 : Int) < ((List.length p0.list) : Int))) = true) (h0 : (decide (0 ≤ v0_1)) = false) : P_Ks_b0 p0 p2 (E_Ks_b0 p0 p2 i0 v0_1) v0_1 := by
  exact ⟨(envF (Z_Ks_b0_2 p0 p2 i0 v0_1 x0)), (zoF (ZO_Ks_b0_2 p0 p2 i0 v0_1 x0)), tells_outVI VOK.nil (x := ((.exit 0), S_Ks_b0_0 p0 p2 v0_1 (envF (Z_Ks_b0_2 p0 p2 i0 v0_1 x0)) (zoF (ZO_Ks_b0_2 p0 p2 i0 v0_1 x0)))) [hP 3 (len_ok (Val.rows p0.list) (List.length p0.list) (Val.rowsLen p0.list)), hB 0 hc0, hB 2 h0] [] (by kernel_rfl)⟩
theorem lt_Ks_b0 (p0 : Val) (p2 : Int) (H : H_Ks_b0 p0 p2) (rec : Rec_Ks p0) : ∀ (r0 : List Val) (i0 : Nat) (v0_1 : Int), List.drop i0 p0.list = r0 → P_Ks_b0 p0 p2 (E_Ks_b0 p0 p2 i0 v0_1) (l_Ks_b0 p0 p2 r0 i0 v0_1)
  | [], i0, v0_1, hd => by
    have hc0 : (decide ((i0 : Int) < ((List.length p0.list) : Int))) = false := by have := drop_end hd; simp; omega
    rw [l_Ks_b0]
    exact x_Ks_b0_0 p0 p2 H rec i0 v0_1 hc0
  | x0 :: r0, i0, v0_1, hd => by
    obtain ⟨hx0, hi0, hd'⟩ := drop_get hd
    have hc0 : (decide ((i0 : Int) < ((List.length p0.list) : Int))) = true := by simp; omega
    rw [l_Ks_b0]
    cases h0 : (decide (0 ≤ v0_1)) with
    | true =>
     exact P_Ks_b0_mono p0 p2 (fun r hr => n_Ks_b0_1 p0 p2 H rec x0 i0 v0_1 hx0 hi0 hc0 h0 hr) _ (lt_Ks_b0 p0 p2 H rec r0 (i0 + 1) (s_Ks x0 v0_1 (w64 (p2 - 1))) hd')
    | false =>
     exact x_Ks_b0_2 p0 p2 H rec x0 i0 v0_1 hx0 hi0 hc0 h0
def Z_Ks_b1_0 (p0 : Val) (p2 : Int) (i1 : Nat) (_v1_1 : Int) : List PV :=
  [.un, .un, .int .i64 p2, .bx 0 0, .un, .un, .un, .un, .int .i64 (i1 : Int), .un, .un, .un, .un, .un, .un, .un, .un, .un, .un, .un, .un, .un, .un, .un, .un, .un, .un, .un, .un, .un, .un, .un, .un, .un, .un, .un, .un, .un, .un, .un, .un, .un, .un, .int .i64 (i1 : Int), .bx 0 4, .sl (Fld.rows p0.fields), .int .i64 ((List.length p0.fields) : Int), .bool false, .bool false, .tup [], .tup [], .bool false]
def ZO_Ks_b1_0 (_p0 : Val) (_p2 : Int) (_i1 : Nat) (_v1_1 : Int) : List (Nat × List PV) :=
  []
theorem x_Ks_b1_0 (p0 : Val) (p2 : Int) (_H : H_Ks_b1 p0 p2) (_rec : Rec_Ks p0) (i1 : Nat) (v1_1 : Int) (hc1 : (decide ((i1 : Int) < ((List.length p0.fields) : Int))) = false) : P_Ks_b1 p0 p2 (E_Ks_b1 p0 p2 i1 v1_1) (.k0 v1_1) := by
  exact ⟨(envF (Z_Ks_b1_0 p0 p2 i1 v1_1)), (zoF (ZO_Ks_b1_0 p0 p2 i1 v1_1)), tells_outVI VOK.nil (x := ((.exit 2), S_Ks_b1_0 p0 p2 v1_1 (envF (Z_Ks_b1_0 p0 p2 i1 v1_1)) (zoF (ZO_Ks_b1_0 p0 p2 i1 v1_1)))) [hP 3 (len_ok (Fld.rows p0.fields) (List.length p0.fields) (Fld.rowsLen p0.fields)), hB 0 hc1] [] (by kernel_rfl)⟩
def Z_Ks_b1_1 (p0 : Val) (p2 : Int) (i1 : Nat) (v1_1 : Int) (x1 : Fld) : List PV :=
  [.un, .int .i64 v1_1, .int .i64 p2, .bx 0 0, .un, .un, .un, .un, .int .i64 (i1 : Int), .un, .un, .un, .un, .un, .un, .un, .un, .un, .un, .un, .un, .un, .un, .un, .un, .un, .un, .un, .un, .un, .un, .un, .un, .un, .un, .un, .un, .un, .un, .un, .un, .un, .un, .int .i64 (i1 : Int), .bx 0 4, .sl (Fld.rows p0.fields), .int .i64 ((List.length p0.fields) : Int), .bool true, .bool true, .int .i64 v1_1, .bool true, .bool true, .un, .un, .bx 0 4, .sl (Fld.rows p0.fields), .int .i64 (i1 : Int), .rf [.str x1.name, .int .i64 x1.v.kind, .int .i64 x1.v.n, .str x1.v.s, .sl (Val.rows x1.v.list), .sl (Fld.rows x1.v.fields)], .rf [.str x1.name, .int .i64 x1.v.kind, .int .i64 x1.v.n, .str x1.v.s, .sl (Val.rows x1.v.list), .sl (Fld.rows x1.v.fields)], .str x1.name, .int .i64 (ByteArray.size x1.name : Int), .bool true]
def ZO_Ks_b1_1 (p0 : Val) (_p2 : Int) (_i1 : Nat) (_v1_1 : Int) (_x1 : Fld) : List (Nat × List PV) :=
  [(0, [.int .i64 p0.kind, .int .i64 p0.n, .str p0.s, .sl (Val.rows p0.list), .sl (Fld.rows p0.fields)])]
theorem x_Ks_b1_1 (p0 : Val) (p2 : Int) (_H : H_Ks_b1 p0 p2) (_rec : Rec_Ks p0) (x1 : Fld) (i1 : Nat) (v1_1 : Int) (hx1 : p0.fields[i1]? = some x1) (_hi1 : i1 < List.length p0.fields) (hc1 : (decide ((i1 : Int) < ((List.length p0.fields) : Int))) = true) (h0 : (decide (0 ≤ v1_1)) = true) (h1 : (decide (1000 < (ByteArray.size x1.name : Int))) = true) : P_Ks_b1 p0 p2 (E_Ks_b1 p0 p2 i1 v1_1) (.k1) := by
  exact ⟨(envF (Z_Ks_b1_1 p0 p2 i1 v1_1 x1)), (zoF (ZO_Ks_b1_1 p0 p2 i1 v1_1 x1)), tells_outVI VOK.nil (x := (.ret, S_Ks_b1_1 p0 p2 (envF (Z_Ks_b1_1 p0 p2 i1 v1_1 x1)) (zoF (ZO_Ks_b1_1 p0 p2 i1 v1_1 x1)))) [hP 3 (len_ok (Fld.rows p0.fields) (List.length p0.fields) (Fld.rowsLen p0.fields)), hB 0 hc1, hB 2 h0, hP 4 (ix_ok 6 (Fld.rows p0.fields) i1 _ (Fld.rowsGet hx1) rfl), hB 3 h1] [] (by kernel_rfl)⟩
theorem n_Ks_b1_2 (p0 : Val) (p2 : Int) (H : H_Ks_b1 p0 p2) (rec : Rec_Ks p0) (x1 : Fld) (i1 : Nat) (v1_1 : Int) (hx1 : p0.fields[i1]? = some x1) (hi1 : i1 < List.length p0.fields) (hc1 : (decide ((i1 : Int) < ((List.length p0.fields) : Int))) = true) (h0 : (decide (0 ≤ v1_1)) = true) (h1 : (decide (1000 < (ByteArray.size x1.name : Int))) = false) {r : Rs} (hr : Tells G (E_Ks_b1 p0 p2 (i1 + 1) (s_Ks x1.v v1_1 (w64 (p2 - 1)))) r) : Tells G (E_Ks_b1 p0 p2 i1 v1_1) r := by
  have hB0 := H.1; have e0 := of_decide_eq_true h0; have e1 := of_decide_eq_false h1
  exact tells_nextVI VOK.nil (y := (HE_Ks_b1 p0 p2 (i1 + 1) (s_Ks x1.v v1_1 (w64 (p2 - 1))), HO_Ks_b1 p0 p2 (i1 + 1) (s_Ks x1.v v1_1 (w64 (p2 - 1))))) [hP 3 (len_ok (Fld.rows p0.fields) (List.length p0.fields) (Fld.rowsLen p0.fields)), hB 0 hc1, hB 2 h0, hP 4 (ix_ok 6 (Fld.rows p0.fields) i1 _ (Fld.rowsGet hx1) rfl), hB 3 h1, hP 3 (ix_ok 6 (Fld.rows p0.fields) i1 _ (Fld.rowsGet hx1) rfl), hP 8 (inc_ok i1 (by omega))] [aN (rec x1.v (szF hx1) v1_1 (w64 (p2 - 1)) (H.2.1 x1 (mem_get hx1)))] (by kernel_rfl) hr
def Z_Ks_b1_3 (p0 : Val) (p2 : Int) (i1 : Nat) (v1_1 : Int) (_x1 : Fld) : List PV :=
  [.un, .un, .int .i64 p2, .bx 0 0, .un, .un, .un, .un, .int .i64 (i1 : Int), .un, .un, .un, .un, .un, .un, .un, .un, .un, .un, .un, .un, .un, .un, .un, .un, .un, .un, .un, .un, .un, .un, .un, .un, .un, .un, .un, .un, .un, .un, .un, .un, .un, .un, .int .i64 (i1 : Int), .bx 0 4, .sl (Fld.rows p0.fields), .int .i64 ((List.length p0.fields) : Int), .bool true, .bool true, .int .i64 v1_1, .bool false, .bool false]
def ZO_Ks_b1_3 (_p0 : Val) (_p2 : Int) (_i1 : Nat) (_v1_1 : Int) (_x1 : Fld) : List (Nat × List PV) :=
  []
theorem x_Ks_b1_3 (p0 : Val) (p2 : Int) (_H : H_Ks_b1 p0 p2) (_rec : Rec_Ks p0) (x1 : Fld) (i1 : Nat) (v1_1 : Int) (_hx1 : p0.fields[i1]? = some x1) (_hi1 : i1 < List.length p0.fields) (hc1 : (decide ((i1 : Int) < ((List.length p0.fields) : Int))) = true) (h0 : (decide (0 ≤ v1_1)) = false) : P_Ks_b1 p0 p2 (E_Ks_b1 p0 p2 i1 v1_1) (.k0 v1_1) := by
  exact ⟨(envF (Z_Ks_b1_3 p0 p2 i1 v1_1 x1)), (zoF (ZO_Ks_b1_3 p0 p2 i1 v1_1 x1)), tells_outVI VOK.nil (x := ((.exit 2), S_Ks_b1_0 p0 p2 v1_1 (envF (Z_Ks_b1_3 p0 p2 i1 v1_1 x1)) (zoF (ZO_Ks_b1_3 p0 p2 i1 v1_1 x1)))) [hP 3 (len_ok (Fld.rows p0.fields) (List.length p0.fields) (Fld.rowsLen p0.fields)), hB 0 hc1, hB 2 h0] [] (by kernel_rfl)⟩
theorem lt_Ks_b1 (p0 : Val) (p2 : Int) (H : H_Ks_b1 p0 p2) (rec : Rec_Ks p0) : ∀ (r1 : List Fld) (i1 : Nat) (v1_1 : Int), List.drop i1 p0.fields = r1 → P_Ks_b1 p0 p2 (E_Ks_b1 p0 p2 i1 v1_1) (l_Ks_b1 p0 p2 r1 i1 v1_1)
  | [], i1, v1_1, hd => by
    have hc1 : (decide ((i1 : Int) < ((List.length p0.fields) : Int))) = false := by have := drop_end hd; simp; omega
    rw [l_Ks_b1]
    exact x_Ks_b1_0 p0 p2 H rec i1 v1_1 hc1
  | x1 :: r1, i1, v1_1, hd => by
    obtain ⟨hx1, hi1, hd'⟩ := drop_get hd
    have hc1 : (decide ((i1 : Int) < ((List.length p0.fields) : Int))) = true := by simp; omega
    rw [l_Ks_b1]
    cases h0 : (decide (0 ≤ v1_1)) with
    | true =>
     cases h1 : (decide (1000 < (ByteArray.size x1.name : Int))) with
     | true =>
      exact x_Ks_b1_1 p0 p2 H rec x1 i1 v1_1 hx1 hi1 hc1 h0 h1
     | false =>
      exact P_Ks_b1_mono p0 p2 (fun r hr => n_Ks_b1_2 p0 p2 H rec x1 i1 v1_1 hx1 hi1 hc1 h0 h1 hr) _ (lt_Ks_b1 p0 p2 H rec r1 (i1 + 1) (s_Ks x1.v v1_1 (w64 (p2 - 1))) hd')
    | false =>
     exact x_Ks_b1_3 p0 p2 H rec x1 i1 v1_1 hx1 hi1 hc1 h0
theorem r_Ks (p0 : Val) (p1 : Int) (p2 : Int) (H : H_Ks p0) (rec : Rec_Ks p0) : Tells G (c_Ks p0 p1 p2) (a_Ks p0 p1 p2) := by
  unfold a_Ks
  rw [s_Ks]
  cases h0 : (decide (p1 ≤ 0)) with
  | true =>
   exact tells_VI (fn := Ir.Ks) rfl VOK.nil [hB 3 h0] [] (by kernel_rfl)
  | false =>
   cases h1 : (decide (p2 ≤ 0)) with
   | true =>
    exact tells_VI (fn := Ir.Ks) rfl VOK.nil [hB 3 h0, hB 2 h1] [] (by kernel_rfl)
   | false =>
    cases h2 : (decide (1000 < (ByteArray.size p0.s : Int))) with
    | true =>
     exact tells_VI (fn := Ir.Ks) rfl VOK.nil [hB 3 h0, hB 2 h1, hB 5 h2] [] (by kernel_rfl)
    | false =>
     have hl3 := lt_Ks_b0 p0 p2 ((give_Ks p0 p1 p2 H).1) rec p0.list 0 (w64 (p1 - 1)) (by simp)
     obtain ⟨z3, zo3, hl3⟩ := hl3
     have hl4 := lt_Ks_b1 p0 p2 ((give_Ks p0 p1 p2 H).2.1) rec p0.fields 0 (l_Ks_b0 p0 p2 p0.list 0 (w64 (p1 - 1))) (by simp)
     cases hr4 : (l_Ks_b1 p0 p2 p0.fields 0 (l_Ks_b0 p0 p2 p0.list 0 (w64 (p1 - 1)))) with
     | k0 y4_0 =>
       rw [hr4] at hl4
       obtain ⟨z4, zo4, hl4⟩ := hl4
       exact tells_VI (fn := Ir.Ks) rfl VOK.nil [hB 3 h0, hB 2 h1, hB 5 h2] [aN hl3, aN hl4] (by kernel_rfl)
     | k1 =>
       rw [hr4] at hl4
       obtain ⟨z4, zo4, hl4⟩ := hl4
       exact tells_VI (fn := Ir.Ks) rfl VOK.nil [hB 3 h0, hB 2 h1, hB 5 h2] [aN hl3, aN hl4] (by kernel_rfl)
theorem i_Ks : ∀ (k : Nat) (p0 : Val), SizeOf.sizeOf p0 < k → ∀ (p1 : Int), ∀ (p2 : Int), H_Ks p0 → Tells G (c_Ks p0 p1 p2) (a_Ks p0 p1 p2)
  | 0, _, h, _, _, _ => absurd h (Nat.not_lt_zero _)
  | k + 1, p0, h, p1, p2, H => r_Ks p0 p1 p2 H (fun q hq p1 p2 hH => i_Ks k q (by omega) p1 p2 hH)
theorem t_Ks (p0 : Val) (p1 : Int) (p2 : Int) (H : H_Ks p0) : Tells G (c_Ks p0 p1 p2) (a_Ks p0 p1 p2) := i_Ks _ p0 (Nat.lt_succ_self _) p1 p2 H
def s_Kl (p0 : Val) (p1 : Int) : Bool :=
  (decide (0 ≤ (s_Ks p0 p1 p1)))
def c_Kl (p0 : Val) (p1 : Int) : En := .call 37 [.agg (Val.cells p0), .int .i64 p1] []
def a_Kl (p0 : Val) (p1 : Int) : Rs := .ret (.bool (s_Kl p0 p1)) []
def H_Kl (p0 : Val) (_p1 : Int) : Prop := (H_Ks p0) ∧ True
theorem t_Kl (p0 : Val) (p1 : Int) (H : H_Kl p0 p1) : Tells G (c_Kl p0 p1) (a_Kl p0 p1) := by
  unfold a_Kl s_Kl
  exact tells_VI (fn := Ir.Kl) rfl VOK.nil [] [aN (t_Ks p0 p1 p1 H.1)] (by kernel_rfl)
def s_Ka (p0 : Val) : Bool :=
  (s_Kl p0 400)
def c_Ka (p0 : Val) : En := .call 9 [.agg (Val.cells p0)] []
def a_Ka (p0 : Val) : Rs := .ret (.bool (s_Ka p0)) []
def H_Ka (p0 : Val) : Prop := (H_Kl p0 400) ∧ True
theorem t_Ka (p0 : Val) (H : H_Ka p0) : Tells G (c_Ka p0) (a_Ka p0) := by
  unfold a_Ka s_Ka
  exact tells_VI (fn := Ir.Ka) rfl VOK.nil [] [aN (t_Kl p0 400 H.1)] (by kernel_rfl)
mutual
def s_K1k (p0 : Val) : Int :=
  (l_K1k_b1 p0 p0.fields 0 (l_K1k_b0 p0 p0.list 0 1))
termination_by SizeOf.sizeOf p0
decreasing_by all_goals first | exact Val.lt_list _ | exact Val.lt_fields _ | exact lt_head _ _ | exact lt_tail _ _ | exact lt_headv _ _
def l_K1k_b0 (p0 : Val) : List Val → Nat → Int → Int
  | [], _i0, v0_1 =>
    v0_1
  | x0 :: r0, i0, v0_1 =>
    l_K1k_b0 p0 r0 (i0 + 1) (w64 (v0_1 + (s_K1k x0)))
termination_by l => SizeOf.sizeOf l
decreasing_by all_goals first | exact Val.lt_list _ | exact Val.lt_fields _ | exact lt_head _ _ | exact lt_tail _ _ | exact lt_headv _ _
def l_K1k_b1 (p0 : Val) : List Fld → Nat → Int → Int
  | [], _i1, v1_1 =>
    v1_1
  | x1 :: r1, i1, v1_1 =>
    l_K1k_b1 p0 r1 (i1 + 1) (w64 (v1_1 + (s_K1k x1.v)))
termination_by l => SizeOf.sizeOf l
decreasing_by all_goals first | exact Val.lt_list _ | exact Val.lt_fields _ | exact lt_head _ _ | exact lt_tail _ _ | exact lt_headv _ _
end
def HE_K1k_b0 (p0 : Val) (i0 : Nat) (v0_1 : Int) : List PV :=
  [.un, .bx 0 0, .un, .int .i64 v0_1, .un, .un, .un, .un, .un, .sl (Val.rows p0.list), .int .i64 ((List.length p0.list) : Int), .int .i64 (i0 : Int), .un, .un, .un, .un, .un, .un, .un, .un, .un, .un, .un, .un, .un, .un, .un, .un, .un, .un, .un, .un, .un, .un]
def HO_K1k_b0 (p0 : Val) (_i0 : Nat) (_v0_1 : Int) : List Ob :=
  [⟨5, 0, true, [.int .i64 p0.kind, .int .i64 p0.n, .str p0.s, .sl (Val.rows p0.list), .sl (Fld.rows p0.fields)]⟩]
def E_K1k_b0 (p0 : Val) (i0 : Nat) (v0_1 : Int) : En := .loop 0 Ir.K1k_b0_live Ir.K1k_b0 (HE_K1k_b0 p0 i0 v0_1) (HO_K1k_b0 p0 i0 v0_1)
def S_K1k_b0_0 (p0 : Val) (q0 : Int) (z : Nat → PV) (_zo : Nat → List PV) : St :=
  ⟨[z 0, .bx 0 0, z 2, .int .i64 q0, z 4, z 5, z 6, z 7, z 8, z 9, z 10, z 11, z 12, z 13, z 14, z 15, z 16, z 17, z 18, z 19, z 20, z 21, z 22, z 23, z 24, z 25, z 26, z 27, z 28, z 29, z 30, z 31, z 32, z 33], [(0, ⟨5, 0, true, [.int .i64 p0.kind, .int .i64 p0.n, .str p0.s, .sl (Val.rows p0.list), .sl (Fld.rows p0.fields)]⟩)], 65⟩
def P_K1k_b0 (p0 : Val) (e : En) (q : Int) : Prop := ∃ z zo, Tells G e (.st (.exit 0) (S_K1k_b0_0 p0 q z zo))
theorem P_K1k_b0_mono (p0 : Val) {e e' : En} (h : ∀ r, Tells G e r → Tells G e' r) : ∀ q, P_K1k_b0 p0 e q → P_K1k_b0 p0 e' q
  | _, ⟨z, zo, hz⟩ => ⟨z, zo, h _ hz⟩
def HE_K1k_b1 (p0 : Val) (i1 : Nat) (v1_1 : Int) : List PV :=
  [.un, .un, .un, .int .i64 v1_1, .un, .un, .un, .un, .un, .un, .un, .un, .un, .un, .un, .un, .un, .un, .un, .un, .un, .sl (Fld.rows p0.fields), .int .i64 ((List.length p0.fields) : Int), .int .i64 (i1 : Int), .un, .un, .un, .un, .un, .un, .un, .un, .un, .un]
def HO_K1k_b1 (_p0 : Val) (_i1 : Nat) (_v1_1 : Int) : List Ob :=
  []
def E_K1k_b1 (p0 : Val) (i1 : Nat) (v1_1 : Int) : En := .loop 0 Ir.K1k_b1_live Ir.K1k_b1 (HE_K1k_b1 p0 i1 v1_1) (HO_K1k_b1 p0 i1 v1_1)
def S_K1k_b1_0 (_p0 : Val) (q0 : Int) (z : Nat → PV) (_zo : Nat → List PV) : St :=
  ⟨[z 0, z 1, z 2, .int .i64 q0, z 4, z 5, z 6, z 7, z 8, z 9, z 10, z 11, z 12, z 13, z 14, z 15, z 16, z 17, z 18, z 19, z 20, z 21, z 22, z 23, z 24, z 25, z 26, z 27, z 28, z 29, z 30, z 31, z 32, z 33], [], 64⟩
def P_K1k_b1 (p0 : Val) (e : En) (q : Int) : Prop := ∃ z zo, Tells G e (.st (.exit 2) (S_K1k_b1_0 p0 q z zo))
theorem P_K1k_b1_mono (p0 : Val) {e e' : En} (h : ∀ r, Tells G e r → Tells G e' r) : ∀ q, P_K1k_b1 p0 e q → P_K1k_b1 p0 e' q
  | _, ⟨z, zo, hz⟩ => ⟨z, zo, h _ hz⟩
def c_K1k (p0 : Val) : En := .call 13 [.agg (Val.cells p0)] []
def a_K1k (p0 : Val) : Rs := .ret (.int .i64 (s_K1k p0)) []
abbrev H_K1k (p0 : Val) : Prop := Val.Sm 4611686018427387904 p0
def Rec_K1k (p0 : Val) : Prop := ∀ (q : Val), SizeOf.sizeOf q < SizeOf.sizeOf p0 → H_K1k q → Tells G (c_K1k q) (a_K1k q)
def H_K1k_b0 (p0 : Val) : Prop := (List.length p0.list ≤ 4611686018427387904) ∧ (∀ x0 ∈ p0.list, H_K1k x0) ∧ True
def H_K1k_b1 (p0 : Val) : Prop := (List.length p0.fields ≤ 4611686018427387904) ∧ (∀ x1 ∈ p0.fields, H_K1k x1.v) ∧ True
theorem give_K1k (p0 : Val) (H : H_K1k p0) : (H_K1k_b0 p0) ∧ (H_K1k_b1 p0) ∧ True := by
  obtain ⟨h1, h2, h3, h4⟩ := H.all
  simp only [H_K1k_b0, H_K1k_b1]
  exact ⟨⟨h1, h3, trivial⟩, ⟨h2, h4, trivial⟩, trivial⟩
def Z_K1k_b0_0 (p0 : Val) (i0 : Nat) (_v0_1 : Int) : List PV :=
  [.un, .un, .un, .un, .un, .un, .un, .un, .un, .sl (Val.rows p0.list), .int .i64 ((List.length p0.list) : Int), .int .i64 (i0 : Int), .bool false]
def ZO_K1k_b0_0 (_p0 : Val) (_i0 : Nat) (_v0_1 : Int) : List (Nat × List PV) :=
  []
theorem x_K1k_b0_0 (p0 : Val) (_H : H_K1k_b0 p0) (_rec : Rec_K1k p0) (i0 : Nat) (v0_1 : Int) (hc0 : (decide ((i0 : Int) < ((List.length p0.list) : Int))) = false) : P_K1k_b0 p0 (E_K1k_b0 p0 i0 v0_1) v0_1 := by
  exact ⟨(envF (Z_K1k_b0_0 p0 i0 v0_1)), (zoF (ZO_K1k_b0_0 p0 i0 v0_1)), tells_outVI VOK.nil (x := ((.exit 0), S_K1k_b0_0 p0 v0_1 (envF (Z_K1k_b0_0 p0 i0 v0_1)) (zoF (ZO_K1k_b0_0 p0 i0 v0_1)))) [hB 0 hc0] [] (by kernel_rfl)⟩
theorem n_K1k_b0_1 (p0 : Val) (H : H_K1k_b0 p0) (rec : Rec_K1k p0) (x0 : Val) (i0 : Nat) (v0_1 : Int) (hx0 : p0.list[i0]? = some x0) (hi0 : i0 < List.length p0.list) (hc0 : (decide ((i0 : Int) < ((List.length p0.list) : Int))) = true) {r : Rs} (hr : Tells G (E_K1k_b0 p0 (i0 + 1) (w64 (v0_1 + (s_K1k x0)))) r) : Tells G (E_K1k_b0 p0 i0 v0_1) r := by
  have hB0 := H.1
  exact tells_nextVI VOK.nil (y := (HE_K1k_b0 p0 (i0 + 1) (w64 (v0_1 + (s_K1k x0))), HO_K1k_b0 p0 (i0 + 1) (w64 (v0_1 + (s_K1k x0))))) [hB 0 hc0, hP 0 (ix_ok 5 (Val.rows p0.list) i0 _ (Val.rowsGet hx0) rfl), hP 8 (inc_ok i0 (by omega))] [aN (rec x0 (szL hx0) (H.2.1 x0 (mem_get hx0)))] (by kernel_rfl) hr
theorem lt_K1k_b0 (p0 : Val) (H : H_K1k_b0 p0) (rec : Rec_K1k p0) : ∀ (r0 : List Val) (i0 : Nat) (v0_1 : Int), List.drop i0 p0.list = r0 → P_K1k_b0 p0 (E_K1k_b0 p0 i0 v0_1) (l_K1k_b0 p0 r0 i0 v0_1)
  | [], i0, v0_1, hd => by
    have hc0 : (decide ((i0 : Int) < ((List.length p0.list) : Int))) = false := by have := drop_end hd; simp; omega
    rw [l_K1k_b0]
    exact x_K1k_b0_0 p0 H rec i0 v0_1 hc0
  | x0 :: r0, i0, v0_1, hd => by
    obtain ⟨hx0, hi0, hd'⟩ := drop_get hd
    have hc0 : (decide ((i0 : Int) < ((List.length p0.list) : Int))) = true := by simp; omega
    rw [l_K1k_b0]
    exact P_K1k_b0_mono p0 (fun r hr => n_K1k_b0_1 p0 H rec x0 i0 v0_1 hx0 hi0 hc0 hr) _ (lt_K1k_b0 p0 H rec r0 (i0 + 1) (w64 (v0_1 + (s_K1k x0))) hd')
def Z_K1k_b1_0 (p0 : Val) (i1 : Nat) (_v1_1 : Int) : List PV :=
  [.un, .un, .un, .un, .un, .un, .un, .un, .un, .un, .un, .un, .un, .un, .un, .un, .un, .un, .un, .un, .un, .sl (Fld.rows p0.fields), .int .i64 ((List.length p0.fields) : Int), .int .i64 (i1 : Int), .bool false]
def ZO_K1k_b1_0 (_p0 : Val) (_i1 : Nat) (_v1_1 : Int) : List (Nat × List PV) :=
  []
theorem x_K1k_b1_0 (p0 : Val) (_H : H_K1k_b1 p0) (_rec : Rec_K1k p0) (i1 : Nat) (v1_1 : Int) (hc1 : (decide ((i1 : Int) < ((List.length p0.fields) : Int))) = false) : P_K1k_b1 p0 (E_K1k_b1 p0 i1 v1_1) v1_1 := by
  exact ⟨(envF (Z_K1k_b1_0 p0 i1 v1_1)), (zoF (ZO_K1k_b1_0 p0 i1 v1_1)), tells_outVI VOK.nil (x := ((.exit 2), S_K1k_b1_0 p0 v1_1 (envF (Z_K1k_b1_0 p0 i1 v1_1)) (zoF (ZO_K1k_b1_0 p0 i1 v1_1)))) [hB 0 hc1] [] (by kernel_rfl)⟩
theorem n_K1k_b1_1 (p0 : Val) (H : H_K1k_b1 p0) (rec : Rec_K1k p0) (x1 : Fld) (i1 : Nat) (v1_1 : Int) (hx1 : p0.fields[i1]? = some x1) (hi1 : i1 < List.length p0.fields) (hc1 : (decide ((i1 : Int) < ((List.length p0.fields) : Int))) = true) {r : Rs} (hr : Tells G (E_K1k_b1 p0 (i1 + 1) (w64 (v1_1 + (s_K1k x1.v)))) r) : Tells G (E_K1k_b1 p0 i1 v1_1) r := by
  have hB0 := H.1
  exact tells_nextVI VOK.nil (y := (HE_K1k_b1 p0 (i1 + 1) (w64 (v1_1 + (s_K1k x1.v))), HO_K1k_b1 p0 (i1 + 1) (w64 (v1_1 + (s_K1k x1.v))))) [hB 0 hc1, hP 0 (ix_ok 6 (Fld.rows p0.fields) i1 _ (Fld.rowsGet hx1) rfl), hP 9 (inc_ok i1 (by omega))] [aN (rec x1.v (szF hx1) (H.2.1 x1 (mem_get hx1)))] (by kernel_rfl) hr
theorem lt_K1k_b1 (p0 : Val) (H : H_K1k_b1 p0) (rec : Rec_K1k p0) : ∀ (r1 : List Fld) (i1 : Nat) (v1_1 : Int), List.drop i1 p0.fields = r1 → P_K1k_b1 p0 (E_K1k_b1 p0 i1 v1_1) (l_K1k_b1 p0 r1 i1 v1_1)
  | [], i1, v1_1, hd => by
    have hc1 : (decide ((i1 : Int) < ((List.length p0.fields) : Int))) = false := by have := drop_end hd; simp; omega
    rw [l_K1k_b1]
    exact x_K1k_b1_0 p0 H rec i1 v1_1 hc1
  | x1 :: r1, i1, v1_1, hd => by
    obtain ⟨hx1, hi1, hd'⟩ := drop_get hd
    have hc1 : (decide ((i1 : Int) < ((List.length p0.fields) : Int))) = true := by simp; omega
    rw [l_K1k_b1]
    exact P_K1k_b1_mono p0 (fun r hr => n_K1k_b1_1 p0 H rec x1 i1 v1_1 hx1 hi1 hc1 hr) _ (lt_K1k_b1 p0 H rec r1 (i1 + 1) (w64 (v1_1 + (s_K1k x1.v))) hd')
theorem r_K1k (p0 : Val) (H : H_K1k p0) (rec : Rec_K1k p0) : Tells G (c_K1k p0) (a_K1k p0) := by
  unfold a_K1k
  rw [s_K1k]
  have hl0 := lt_K1k_b0 p0 ((give_K1k p0 H).1) rec p0.list 0 1 (by simp)
  obtain ⟨z0, zo0, hl0⟩ := hl0
  have hl1 := lt_K1k_b1 p0 ((give_K1k p0 H).2.1) rec p0.fields 0 (l_K1k_b0 p0 p0.list 0 1) (by simp)
  obtain ⟨z1, zo1, hl1⟩ := hl1
  exact tells_VI (fn := Ir.K1k) rfl VOK.nil [hP 5 (len_ok (Val.rows p0.list) (List.length p0.list) (Val.rowsLen p0.list)), hP 3 (len_ok (Fld.rows p0.fields) (List.length p0.fields) (Fld.rowsLen p0.fields))] [aN hl0, aN hl1] (by kernel_rfl)
theorem i_K1k : ∀ (k : Nat) (p0 : Val), SizeOf.sizeOf p0 < k → H_K1k p0 → Tells G (c_K1k p0) (a_K1k p0)
  | 0, _, h, _ => absurd h (Nat.not_lt_zero _)
  | k + 1, p0, h, H => r_K1k p0 H (fun q hq hH => i_K1k k q (by omega) hH)
theorem t_K1k (p0 : Val) (H : H_K1k p0) : Tells G (c_K1k p0) (a_K1k p0) := i_K1k _ p0 (Nat.lt_succ_self _) H
inductive R_K1u_b0 where
  | k0
  | k1
def l_K1u_b0 (p0 : ByteArray) : List Int → Nat → R_K1u_b0
  | [], _i0 =>
    (.k0)
  | x0 :: r0, i0 =>
    bif (x0 == 10) then
      l_K1u_b0 p0 r0 (i0 + 1)
    else
      bif (decide (x0 < 32)) then
        (.k1)
      else
        bif (decide (126 < x0)) then
          (.k1)
        else
          l_K1u_b0 p0 r0 (i0 + 1)
def HE_K1u_b0 (p0 : ByteArray) (i0 : Nat) : List PV :=
  [.str p0, .un, .un, .un, .un, .int .i64 (ByteArray.size p0 : Int), .int .i64 (i0 : Int), .un, .un, .un, .un, .un, .un, .un, .un, .un, .un, .un, .un, .un, .un, .un, .un, .un, .un, .un, .un, .un, .un]
def HO_K1u_b0 (_p0 : ByteArray) (_i0 : Nat) : List Ob :=
  []
def E_K1u_b0 (p0 : ByteArray) (i0 : Nat) : En := .loop 0 Ir.K1u_b0_live Ir.K1u_b0 (HE_K1u_b0 p0 i0) (HO_K1u_b0 p0 i0)
def S_K1u_b0_0 (p0 : ByteArray) (z : Nat → PV) (_zo : Nat → List PV) : St :=
  ⟨[.str p0, z 1, z 2, z 3, z 4, z 5, z 6, z 7, z 8, z 9, z 10, z 11, z 12, z 13, z 14, z 15, z 16, z 17, z 18, z 19, z 20, z 21, z 22, z 23, z 24, z 25, z 26, z 27, z 28], [], 64⟩
def S_K1u_b0_1 (_p0 : ByteArray) (z : Nat → PV) (_zo : Nat → List PV) : St :=
  ⟨[z 0, z 1, .bool false, z 3, z 4, z 5, z 6, z 7, z 8, z 9, z 10, z 11, z 12, z 13, z 14, z 15, z 16, z 17, z 18, z 19, z 20, z 21, z 22, z 23, z 24, z 25, z 26, z 27, z 28], [], 1280⟩
def P_K1u_b0 (p0 : ByteArray) (e : En) : R_K1u_b0 → Prop
  | .k0 => ∃ z zo, Tells G e (.st (.exit 0) (S_K1u_b0_0 p0 z zo))
  | .k1 => ∃ z zo, Tells G e (.st .ret (S_K1u_b0_1 p0 z zo))
theorem P_K1u_b0_mono (p0 : ByteArray) {e e' : En} (h : ∀ r, Tells G e r → Tells G e' r) : ∀ q, P_K1u_b0 p0 e q → P_K1u_b0 p0 e' q
  | .k0, ⟨z, zo, hz⟩ => ⟨z, zo, h _ hz⟩
  | .k1, ⟨z, zo, hz⟩ => ⟨z, zo, h _ hz⟩
def H_K1u_b0 (p0 : ByteArray) : Prop := (List.length (letters p0) ≤ 4611686018427387904) ∧ True
def Z_K1u_b0_0 (p0 : ByteArray) (i0 : Nat) : List PV :=
  [.un, .un, .un, .un, .un, .int .i64 (ByteArray.size p0 : Int), .int .i64 (i0 : Int), .bool false]
def ZO_K1u_b0_0 (_p0 : ByteArray) (_i0 : Nat) : List (Nat × List PV) :=
  []
theorem x_K1u_b0_0 (p0 : ByteArray) (_H : H_K1u_b0 p0) (i0 : Nat) (hc0 : (decide ((i0 : Int) < (ByteArray.size p0 : Int))) = false) : P_K1u_b0 p0 (E_K1u_b0 p0 i0) (.k0) := by
  exact ⟨(envF (Z_K1u_b0_0 p0 i0)), (zoF (ZO_K1u_b0_0 p0 i0)), tells_outVI VOK.nil (x := ((.exit 0), S_K1u_b0_0 p0 (envF (Z_K1u_b0_0 p0 i0)) (zoF (ZO_K1u_b0_0 p0 i0)))) [hB 0 hc0] [] (by kernel_rfl)⟩
theorem n_K1u_b0_1 (p0 : ByteArray) (H : H_K1u_b0 p0) (x0 : Int) (i0 : Nat) (hx0 : (letters p0)[i0]? = some x0) (hi0 : i0 < List.length (letters p0)) (hc0 : (decide ((i0 : Int) < (ByteArray.size p0 : Int))) = true) (h0 : (x0 == 10) = true) {r : Rs} (hr : Tells G (E_K1u_b0 p0 (i0 + 1)) r) : Tells G (E_K1u_b0 p0 i0) r := by
  have hB0 := H.1; have e0 := eq_of_beq h0
  exact tells_nextVI VOK.nil (y := (HE_K1u_b0 p0 (i0 + 1), HO_K1u_b0 p0 (i0 + 1))) [hB 0 hc0, hP 4 (six_ok p0 i0 x0 hx0), hP 0 (dec (!(x0 == 10)) false (by rw [h0]; rfl)), hP 12 (inc_ok i0 (by omega))] [] (by kernel_rfl) hr
def Z_K1u_b0_2 (p0 : ByteArray) (i0 : Nat) (x0 : Int) : List PV :=
  [.str p0, .un, .un, .int .i64 (i0 : Int), .un, .int .i64 (ByteArray.size p0 : Int), .int .i64 (i0 : Int), .bool true, .int .i64 (i0 : Int), .str p0, .int .i64 (i0 : Int), .int .u8 x0, .bool true, .bool true, .str p0, .int .i64 (i0 : Int), .int .u8 x0, .bool true, .bool true, .tup [], .tup [], .tup [], .tup [], .bool true, .bool true]
def ZO_K1u_b0_2 (_p0 : ByteArray) (_i0 : Nat) (_x0 : Int) : List (Nat × List PV) :=
  []
theorem x_K1u_b0_2 (p0 : ByteArray) (_H : H_K1u_b0 p0) (x0 : Int) (i0 : Nat) (hx0 : (letters p0)[i0]? = some x0) (_hi0 : i0 < List.length (letters p0)) (hc0 : (decide ((i0 : Int) < (ByteArray.size p0 : Int))) = true) (h0 : (x0 == 10) = false) (h1 : (decide (x0 < 32)) = true) : P_K1u_b0 p0 (E_K1u_b0 p0 i0) (.k1) := by
  exact ⟨(envF (Z_K1u_b0_2 p0 i0 x0)), (zoF (ZO_K1u_b0_2 p0 i0 x0)), tells_outVI VOK.nil (x := (.ret, S_K1u_b0_1 p0 (envF (Z_K1u_b0_2 p0 i0 x0)) (zoF (ZO_K1u_b0_2 p0 i0 x0)))) [hB 0 hc0, hP 4 (six_ok p0 i0 x0 hx0), hP 0 (dec (!(x0 == 10)) true (by rw [h0]; rfl)), hP 3 (six_ok p0 i0 x0 hx0), hB 0 h1] [] (by kernel_rfl)⟩
def Z_K1u_b0_3 (p0 : ByteArray) (i0 : Nat) (x0 : Int) : List PV :=
  [.str p0, .un, .un, .int .i64 (i0 : Int), .un, .int .i64 (ByteArray.size p0 : Int), .int .i64 (i0 : Int), .bool true, .int .i64 (i0 : Int), .str p0, .int .i64 (i0 : Int), .int .u8 x0, .bool true, .bool true, .str p0, .int .i64 (i0 : Int), .int .u8 x0, .bool false, .bool false, .str p0, .int .i64 (i0 : Int), .int .u8 x0, .bool true, .bool true, .bool true]
def ZO_K1u_b0_3 (_p0 : ByteArray) (_i0 : Nat) (_x0 : Int) : List (Nat × List PV) :=
  []
theorem x_K1u_b0_3 (p0 : ByteArray) (_H : H_K1u_b0 p0) (x0 : Int) (i0 : Nat) (hx0 : (letters p0)[i0]? = some x0) (_hi0 : i0 < List.length (letters p0)) (hc0 : (decide ((i0 : Int) < (ByteArray.size p0 : Int))) = true) (h0 : (x0 == 10) = false) (h1 : (decide (x0 < 32)) = false) (h2 : (decide (126 < x0)) = true) : P_K1u_b0 p0 (E_K1u_b0 p0 i0) (.k1) := by
  exact ⟨(envF (Z_K1u_b0_3 p0 i0 x0)), (zoF (ZO_K1u_b0_3 p0 i0 x0)), tells_outVI VOK.nil (x := (.ret, S_K1u_b0_1 p0 (envF (Z_K1u_b0_3 p0 i0 x0)) (zoF (ZO_K1u_b0_3 p0 i0 x0)))) [hB 0 hc0, hP 4 (six_ok p0 i0 x0 hx0), hP 0 (dec (!(x0 == 10)) true (by rw [h0]; rfl)), hP 3 (six_ok p0 i0 x0 hx0), hB 0 h1, hP 3 (six_ok p0 i0 x0 hx0), hB 0 h2] [] (by kernel_rfl)⟩
theorem n_K1u_b0_4 (p0 : ByteArray) (H : H_K1u_b0 p0) (x0 : Int) (i0 : Nat) (hx0 : (letters p0)[i0]? = some x0) (hi0 : i0 < List.length (letters p0)) (hc0 : (decide ((i0 : Int) < (ByteArray.size p0 : Int))) = true) (h0 : (x0 == 10) = false) (h1 : (decide (x0 < 32)) = false) (h2 : (decide (126 < x0)) = false) {r : Rs} (hr : Tells G (E_K1u_b0 p0 (i0 + 1)) r) : Tells G (E_K1u_b0 p0 i0) r := by
  have hB0 := H.1; have e0 := beq_eq_false_iff_ne.1 h0; have e1 := of_decide_eq_false h1; have e2 := of_decide_eq_false h2
  exact tells_nextVI VOK.nil (y := (HE_K1u_b0 p0 (i0 + 1), HO_K1u_b0 p0 (i0 + 1))) [hB 0 hc0, hP 4 (six_ok p0 i0 x0 hx0), hP 0 (dec (!(x0 == 10)) true (by rw [h0]; rfl)), hP 3 (six_ok p0 i0 x0 hx0), hB 0 h1, hP 3 (six_ok p0 i0 x0 hx0), hB 0 h2, hP 2 (inc_ok i0 (by omega))] [] (by kernel_rfl) hr
theorem lt_K1u_b0 (p0 : ByteArray) (H : H_K1u_b0 p0) : ∀ (r0 : List Int) (i0 : Nat), List.drop i0 (letters p0) = r0 → P_K1u_b0 p0 (E_K1u_b0 p0 i0) (l_K1u_b0 p0 r0 i0)
  | [], i0, hd => by
    have hc0 : (decide ((i0 : Int) < (ByteArray.size p0 : Int))) = false := by have hL := lettersLen p0; have := drop_end hd; simp; omega
    rw [l_K1u_b0]
    exact x_K1u_b0_0 p0 H i0 hc0
  | x0 :: r0, i0, hd => by
    obtain ⟨hx0, hi0, hd'⟩ := drop_get hd
    have hc0 : (decide ((i0 : Int) < (ByteArray.size p0 : Int))) = true := by have hL := lettersLen p0; simp; omega
    rw [l_K1u_b0]
    cases h0 : (x0 == 10) with
    | true =>
     exact P_K1u_b0_mono p0 (fun r hr => n_K1u_b0_1 p0 H x0 i0 hx0 hi0 hc0 h0 hr) _ (lt_K1u_b0 p0 H r0 (i0 + 1) hd')
    | false =>
     cases h1 : (decide (x0 < 32)) with
     | true =>
      exact x_K1u_b0_2 p0 H x0 i0 hx0 hi0 hc0 h0 h1
     | false =>
      cases h2 : (decide (126 < x0)) with
      | true =>
       exact x_K1u_b0_3 p0 H x0 i0 hx0 hi0 hc0 h0 h1 h2
      | false =>
       exact P_K1u_b0_mono p0 (fun r hr => n_K1u_b0_4 p0 H x0 i0 hx0 hi0 hc0 h0 h1 h2 hr) _ (lt_K1u_b0 p0 H r0 (i0 + 1) hd')
def s_K1u (p0 : ByteArray) : Bool :=
  (match (l_K1u_b0 p0 (letters p0) 0) with
  | .k0 => (decide ((ByteArray.size p0 : Int) ≤ 200))
  | .k1 => false)
def c_K1u (p0 : ByteArray) : En := .call 67 [.str p0] []
def a_K1u (p0 : ByteArray) : Rs := .ret (.bool (s_K1u p0)) []
def H_K1u (p0 : ByteArray) : Prop := (H_K1u_b0 p0) ∧ True
theorem t_K1u (p0 : ByteArray) (H : H_K1u p0) : Tells G (c_K1u p0) (a_K1u p0) := by
  unfold a_K1u s_K1u
  have hl0 := lt_K1u_b0 p0 (H.1) (letters p0) 0 (by simp)
  cases hr0 : (l_K1u_b0 p0 (letters p0) 0) with
  | k0 =>
    rw [hr0] at hl0
    obtain ⟨z0, zo0, hl0⟩ := hl0
    exact tells_VI (fn := Ir.K1u) rfl VOK.nil [] [aN hl0] (by kernel_rfl)
  | k1 =>
    rw [hr0] at hl0
    obtain ⟨z0, zo0, hl0⟩ := hl0
    exact tells_VI (fn := Ir.K1u) rfl VOK.nil [] [aN hl0] (by kernel_rfl)
def s_K1t (p0 : Val) : Bool :=
  bif (p0.kind == 1) then
    bif (sEq p0.s (⟨#[]⟩ : ByteArray)) then
      bif (p0.n == 0) then
        true
      else
        (p0.n == 1)
    else
      false
  else
    bif (p0.kind == 2) then
      bif (sEq p0.s (⟨#[]⟩ : ByteArray)) then
        bif (decide ((-1000000000000000) ≤ p0.n)) then
          (decide (p0.n ≤ 1000000000000000))
        else
          false
      else
        false
    else
      bif (p0.kind == 3) then
        bif (p0.n == 0) then
          (s_K1u p0.s)
        else
          false
      else
        bif (p0.kind == 0) then
          bif (p0.n == 0) then
            bif (sEq p0.s (⟨#[]⟩ : ByteArray)) then
              true
            else
              false
          else
            false
        else
          bif (p0.kind == 4) then
            bif (p0.n == 0) then
              bif (sEq p0.s (⟨#[]⟩ : ByteArray)) then
                true
              else
                false
            else
              false
          else
            bif (p0.kind == 5) then
              bif (p0.n == 0) then
                bif (sEq p0.s (⟨#[]⟩ : ByteArray)) then
                  true
                else
                  false
              else
                false
            else
              false
def c_K1t (p0 : Val) : En := .call 57 [.agg (Val.cells p0)] []
def a_K1t (p0 : Val) : Rs := .ret (.bool (s_K1t p0)) []
def H_K1t (p0 : Val) : Prop := (H_K1u p0.s) ∧ True
theorem t_K1t_0 (p0 : Val) (_H : H_K1t p0) (h0 : (p0.kind == 1) = true) : Tells G (c_K1t p0) (.ret (.bool (bif (sEq p0.s (⟨#[]⟩ : ByteArray)) then
    bif (p0.n == 0) then
      true
    else
      (p0.n == 1)
  else
    false)) []) := by
  cases h1 : (sEq p0.s (⟨#[]⟩ : ByteArray)) with
  | true =>
   cases h2 : (p0.n == 0) with
   | true =>
    exact tells_VI (fn := Ir.K1t) rfl VOK.nil [hB 4 h0, hB 3 h1, hB 3 h2] [] (by kernel_rfl)
   | false =>
    exact tells_VI (fn := Ir.K1t) rfl VOK.nil [hB 4 h0, hB 3 h1, hB 3 h2] [] (by kernel_rfl)
  | false =>
   exact tells_VI (fn := Ir.K1t) rfl VOK.nil [hB 4 h0, hB 3 h1] [] (by kernel_rfl)
theorem t_K1t_1 (p0 : Val) (_H : H_K1t p0) (h0 : (p0.kind == 1) = false) (h1 : (p0.kind == 2) = true) : Tells G (c_K1t p0) (.ret (.bool (bif (sEq p0.s (⟨#[]⟩ : ByteArray)) then
    bif (decide ((-1000000000000000) ≤ p0.n)) then
      (decide (p0.n ≤ 1000000000000000))
    else
      false
  else
    false)) []) := by
  cases h2 : (sEq p0.s (⟨#[]⟩ : ByteArray)) with
  | true =>
   cases h3 : (decide ((-1000000000000000) ≤ p0.n)) with
   | true =>
    exact tells_VI (fn := Ir.K1t) rfl VOK.nil [hB 4 h0, hB 1 h1, hB 3 h2, hB 3 h3] [] (by kernel_rfl)
   | false =>
    exact tells_VI (fn := Ir.K1t) rfl VOK.nil [hB 4 h0, hB 1 h1, hB 3 h2, hB 3 h3] [] (by kernel_rfl)
  | false =>
   exact tells_VI (fn := Ir.K1t) rfl VOK.nil [hB 4 h0, hB 1 h1, hB 3 h2] [] (by kernel_rfl)
theorem t_K1t_2 (p0 : Val) (H : H_K1t p0) (h0 : (p0.kind == 1) = false) (h1 : (p0.kind == 2) = false) (h2 : (p0.kind == 3) = true) : Tells G (c_K1t p0) (.ret (.bool (bif (p0.n == 0) then
    (s_K1u p0.s)
  else
    false)) []) := by
  cases h3 : (p0.n == 0) with
  | true =>
   exact tells_VI (fn := Ir.K1t) rfl VOK.nil [hB 4 h0, hB 1 h1, hB 1 h2, hB 3 h3] [aN (t_K1u p0.s H.1)] (by kernel_rfl)
  | false =>
   exact tells_VI (fn := Ir.K1t) rfl VOK.nil [hB 4 h0, hB 1 h1, hB 1 h2, hB 3 h3] [] (by kernel_rfl)
theorem t_K1t_3 (p0 : Val) (_H : H_K1t p0) (h0 : (p0.kind == 1) = false) (h1 : (p0.kind == 2) = false) (h2 : (p0.kind == 3) = false) (h3 : (p0.kind == 0) = true) : Tells G (c_K1t p0) (.ret (.bool (bif (p0.n == 0) then
    bif (sEq p0.s (⟨#[]⟩ : ByteArray)) then
      true
    else
      false
  else
    false)) []) := by
  cases h4 : (p0.n == 0) with
  | true =>
   cases h5 : (sEq p0.s (⟨#[]⟩ : ByteArray)) with
   | true =>
    exact tells_VI (fn := Ir.K1t) rfl VOK.nil [hB 4 h0, hB 1 h1, hB 1 h2, hB 1 h3, hB 3 h4, hB 3 h5] [] (by kernel_rfl)
   | false =>
    exact tells_VI (fn := Ir.K1t) rfl VOK.nil [hB 4 h0, hB 1 h1, hB 1 h2, hB 1 h3, hB 3 h4, hB 3 h5] [] (by kernel_rfl)
  | false =>
   exact tells_VI (fn := Ir.K1t) rfl VOK.nil [hB 4 h0, hB 1 h1, hB 1 h2, hB 1 h3, hB 3 h4] [] (by kernel_rfl)
theorem t_K1t_4 (p0 : Val) (_H : H_K1t p0) (h0 : (p0.kind == 1) = false) (h1 : (p0.kind == 2) = false) (h2 : (p0.kind == 3) = false) (h3 : (p0.kind == 0) = false) (h4 : (p0.kind == 4) = true) : Tells G (c_K1t p0) (.ret (.bool (bif (p0.n == 0) then
    bif (sEq p0.s (⟨#[]⟩ : ByteArray)) then
      true
    else
      false
  else
    false)) []) := by
  cases h5 : (p0.n == 0) with
  | true =>
   cases h6 : (sEq p0.s (⟨#[]⟩ : ByteArray)) with
   | true =>
    exact tells_VI (fn := Ir.K1t) rfl VOK.nil [hB 4 h0, hB 1 h1, hB 1 h2, hB 1 h3, hB 1 h4, hB 3 h5, hB 3 h6] [] (by kernel_rfl)
   | false =>
    exact tells_VI (fn := Ir.K1t) rfl VOK.nil [hB 4 h0, hB 1 h1, hB 1 h2, hB 1 h3, hB 1 h4, hB 3 h5, hB 3 h6] [] (by kernel_rfl)
  | false =>
   exact tells_VI (fn := Ir.K1t) rfl VOK.nil [hB 4 h0, hB 1 h1, hB 1 h2, hB 1 h3, hB 1 h4, hB 3 h5] [] (by kernel_rfl)
theorem t_K1t_5 (p0 : Val) (_H : H_K1t p0) (h0 : (p0.kind == 1) = false) (h1 : (p0.kind == 2) = false) (h2 : (p0.kind == 3) = false) (h3 : (p0.kind == 0) = false) (h4 : (p0.kind == 4) = false) : Tells G (c_K1t p0) (.ret (.bool (bif (p0.kind == 5) then
    bif (p0.n == 0) then
      bif (sEq p0.s (⟨#[]⟩ : ByteArray)) then
        true
      else
        false
    else
      false
  else
    false)) []) := by
  cases h5 : (p0.kind == 5) with
  | true =>
   cases h6 : (p0.n == 0) with
   | true =>
    cases h7 : (sEq p0.s (⟨#[]⟩ : ByteArray)) with
    | true =>
     exact tells_VI (fn := Ir.K1t) rfl VOK.nil [hB 4 h0, hB 1 h1, hB 1 h2, hB 1 h3, hB 1 h4, hB 1 h5, hB 3 h6, hB 3 h7] [] (by kernel_rfl)
    | false =>
     exact tells_VI (fn := Ir.K1t) rfl VOK.nil [hB 4 h0, hB 1 h1, hB 1 h2, hB 1 h3, hB 1 h4, hB 1 h5, hB 3 h6, hB 3 h7] [] (by kernel_rfl)
   | false =>
    exact tells_VI (fn := Ir.K1t) rfl VOK.nil [hB 4 h0, hB 1 h1, hB 1 h2, hB 1 h3, hB 1 h4, hB 1 h5, hB 3 h6] [] (by kernel_rfl)
  | false =>
   exact tells_VI (fn := Ir.K1t) rfl VOK.nil [hB 4 h0, hB 1 h1, hB 1 h2, hB 1 h3, hB 1 h4, hB 1 h5] [] (by kernel_rfl)
theorem t_K1t (p0 : Val) (H : H_K1t p0) : Tells G (c_K1t p0) (a_K1t p0) := by
  unfold a_K1t s_K1t
  cases h0 : (p0.kind == 1) with
  | true =>
   exact t_K1t_0 p0 H h0
  | false =>
   cases h1 : (p0.kind == 2) with
   | true =>
    exact t_K1t_1 p0 H h0 h1
   | false =>
    cases h2 : (p0.kind == 3) with
    | true =>
     exact t_K1t_2 p0 H h0 h1 h2
    | false =>
     cases h3 : (p0.kind == 0) with
     | true =>
      exact t_K1t_3 p0 H h0 h1 h2 h3
     | false =>
      cases h4 : (p0.kind == 4) with
      | true =>
       exact t_K1t_4 p0 H h0 h1 h2 h3 h4
      | false =>
       exact t_K1t_5 p0 H h0 h1 h2 h3 h4
inductive R_K1q_b0 where
  | k0
  | k1
def l_K1q_b0 (p0 : ByteArray) : List Int → Nat → R_K1q_b0
  | [], _i0 =>
    (.k0)
  | x0 :: r0, i0 =>
    bif (decide (97 ≤ x0)) then
      bif (decide (x0 ≤ 122)) then
        l_K1q_b0 p0 r0 (i0 + 1)
      else
        bif (decide (65 ≤ x0)) then
          bif (decide (x0 ≤ 90)) then
            l_K1q_b0 p0 r0 (i0 + 1)
          else
            bif (decide (48 ≤ x0)) then
              bif (decide (x0 ≤ 57)) then
                l_K1q_b0 p0 r0 (i0 + 1)
              else
                bif (x0 == 45) then
                  l_K1q_b0 p0 r0 (i0 + 1)
                else
                  bif (x0 == 95) then
                    l_K1q_b0 p0 r0 (i0 + 1)
                  else
                    bif (x0 == 47) then
                      l_K1q_b0 p0 r0 (i0 + 1)
                    else
                      (.k1)
            else
              bif (x0 == 45) then
                l_K1q_b0 p0 r0 (i0 + 1)
              else
                bif (x0 == 95) then
                  l_K1q_b0 p0 r0 (i0 + 1)
                else
                  bif (x0 == 47) then
                    l_K1q_b0 p0 r0 (i0 + 1)
                  else
                    (.k1)
        else
          bif (decide (48 ≤ x0)) then
            bif (decide (x0 ≤ 57)) then
              l_K1q_b0 p0 r0 (i0 + 1)
            else
              bif (x0 == 45) then
                l_K1q_b0 p0 r0 (i0 + 1)
              else
                bif (x0 == 95) then
                  l_K1q_b0 p0 r0 (i0 + 1)
                else
                  bif (x0 == 47) then
                    l_K1q_b0 p0 r0 (i0 + 1)
                  else
                    (.k1)
          else
            bif (x0 == 45) then
              l_K1q_b0 p0 r0 (i0 + 1)
            else
              bif (x0 == 95) then
                l_K1q_b0 p0 r0 (i0 + 1)
              else
                bif (x0 == 47) then
                  l_K1q_b0 p0 r0 (i0 + 1)
                else
                  (.k1)
    else
      bif (decide (65 ≤ x0)) then
        bif (decide (x0 ≤ 90)) then
          l_K1q_b0 p0 r0 (i0 + 1)
        else
          bif (decide (48 ≤ x0)) then
            bif (decide (x0 ≤ 57)) then
              l_K1q_b0 p0 r0 (i0 + 1)
            else
              bif (x0 == 45) then
                l_K1q_b0 p0 r0 (i0 + 1)
              else
                bif (x0 == 95) then
                  l_K1q_b0 p0 r0 (i0 + 1)
                else
                  bif (x0 == 47) then
                    l_K1q_b0 p0 r0 (i0 + 1)
                  else
                    (.k1)
          else
            bif (x0 == 45) then
              l_K1q_b0 p0 r0 (i0 + 1)
            else
              bif (x0 == 95) then
                l_K1q_b0 p0 r0 (i0 + 1)
              else
                bif (x0 == 47) then
                  l_K1q_b0 p0 r0 (i0 + 1)
                else
                  (.k1)
      else
        bif (decide (48 ≤ x0)) then
          bif (decide (x0 ≤ 57)) then
            l_K1q_b0 p0 r0 (i0 + 1)
          else
            bif (x0 == 45) then
              l_K1q_b0 p0 r0 (i0 + 1)
            else
              bif (x0 == 95) then
                l_K1q_b0 p0 r0 (i0 + 1)
              else
                bif (x0 == 47) then
                  l_K1q_b0 p0 r0 (i0 + 1)
                else
                  (.k1)
        else
          bif (x0 == 45) then
            l_K1q_b0 p0 r0 (i0 + 1)
          else
            bif (x0 == 95) then
              l_K1q_b0 p0 r0 (i0 + 1)
            else
              bif (x0 == 47) then
                l_K1q_b0 p0 r0 (i0 + 1)
              else
                (.k1)
def HE_K1q_b0 (p0 : ByteArray) (i0 : Nat) : List PV :=
  [.str p0, .un, .un, .un, .un, .un, .int .i64 (ByteArray.size p0 : Int), .int .i64 (i0 : Int), .un, .un, .un, .un, .un, .un, .un, .un, .un, .un, .un, .un, .un, .un, .un, .un, .un, .un, .un, .un, .un, .un, .un, .un, .un, .un, .un, .un, .un, .un, .un, .un, .un, .un, .un, .un, .un, .un, .un, .un, .un, .un, .un, .un, .un, .un, .un, .un, .un]
def HO_K1q_b0 (_p0 : ByteArray) (_i0 : Nat) : List Ob :=
  []
def E_K1q_b0 (p0 : ByteArray) (i0 : Nat) : En := .loop 0 Ir.K1q_b0_live Ir.K1q_b0 (HE_K1q_b0 p0 i0) (HO_K1q_b0 p0 i0)
def S_K1q_b0_0 (p0 : ByteArray) (z : Nat → PV) (_zo : Nat → List PV) : St :=
  ⟨[.str p0, z 1, z 2, z 3, z 4, z 5, z 6, z 7, z 8, z 9, z 10, z 11, z 12, z 13, z 14, z 15, z 16, z 17, z 18, z 19, z 20, z 21, z 22, z 23, z 24, z 25, z 26, z 27, z 28, z 29, z 30, z 31, z 32, z 33, z 34, z 35, z 36, z 37, z 38, z 39, z 40, z 41, z 42, z 43, z 44, z 45, z 46, z 47, z 48, z 49, z 50, z 51, z 52, z 53, z 54, z 55, z 56], [], 64⟩
def S_K1q_b0_1 (_p0 : ByteArray) (z : Nat → PV) (_zo : Nat → List PV) : St :=
  ⟨[z 0, z 1, .bool false, z 3, z 4, z 5, z 6, z 7, z 8, z 9, z 10, z 11, z 12, z 13, z 14, z 15, z 16, z 17, z 18, z 19, z 20, z 21, z 22, z 23, z 24, z 25, z 26, z 27, z 28, z 29, z 30, z 31, z 32, z 33, z 34, z 35, z 36, z 37, z 38, z 39, z 40, z 41, z 42, z 43, z 44, z 45, z 46, z 47, z 48, z 49, z 50, z 51, z 52, z 53, z 54, z 55, z 56], [], 2752⟩
def P_K1q_b0 (p0 : ByteArray) (e : En) : R_K1q_b0 → Prop
  | .k0 => ∃ z zo, Tells G e (.st (.exit 0) (S_K1q_b0_0 p0 z zo))
  | .k1 => ∃ z zo, Tells G e (.st .ret (S_K1q_b0_1 p0 z zo))
theorem P_K1q_b0_mono (p0 : ByteArray) {e e' : En} (h : ∀ r, Tells G e r → Tells G e' r) : ∀ q, P_K1q_b0 p0 e q → P_K1q_b0 p0 e' q
  | .k0, ⟨z, zo, hz⟩ => ⟨z, zo, h _ hz⟩
  | .k1, ⟨z, zo, hz⟩ => ⟨z, zo, h _ hz⟩
def H_K1q_b0 (p0 : ByteArray) : Prop := (List.length (letters p0) ≤ 4611686018427387904) ∧ True
def Z_K1q_b0_0 (p0 : ByteArray) (i0 : Nat) : List PV :=
  [.un, .un, .un, .un, .un, .un, .int .i64 (ByteArray.size p0 : Int), .int .i64 (i0 : Int), .bool false]
def ZO_K1q_b0_0 (_p0 : ByteArray) (_i0 : Nat) : List (Nat × List PV) :=
  []
theorem x_K1q_b0_0 (p0 : ByteArray) (_H : H_K1q_b0 p0) (i0 : Nat) (hc0 : (decide ((i0 : Int) < (ByteArray.size p0 : Int))) = false) : P_K1q_b0 p0 (E_K1q_b0 p0 i0) (.k0) := by
  exact ⟨(envF (Z_K1q_b0_0 p0 i0)), (zoF (ZO_K1q_b0_0 p0 i0)), tells_outVI VOK.nil (x := ((.exit 0), S_K1q_b0_0 p0 (envF (Z_K1q_b0_0 p0 i0)) (zoF (ZO_K1q_b0_0 p0 i0)))) [hB 0 hc0] [] (by kernel_rfl)⟩
theorem n_K1q_b0_1 (p0 : ByteArray) (H : H_K1q_b0 p0) (x0 : Int) (i0 : Nat) (hx0 : (letters p0)[i0]? = some x0) (hi0 : i0 < List.length (letters p0)) (hc0 : (decide ((i0 : Int) < (ByteArray.size p0 : Int))) = true) (h0 : (decide (97 ≤ x0)) = true) (h1 : (decide (x0 ≤ 122)) = true) {r : Rs} (hr : Tells G (E_K1q_b0 p0 (i0 + 1)) r) : Tells G (E_K1q_b0 p0 i0) r := by
  have hB0 := H.1; have e0 := of_decide_eq_true h0; have e1 := of_decide_eq_true h1
  exact tells_nextVI VOK.nil (y := (HE_K1q_b0 p0 (i0 + 1), HO_K1q_b0 p0 (i0 + 1))) [hB 0 hc0, hP 4 (six_ok p0 i0 x0 hx0), hB 2 h0, hB 2 h1, hP 30 (inc_ok i0 (by omega))] [] (by kernel_rfl) hr
theorem n_K1q_b0_2 (p0 : ByteArray) (H : H_K1q_b0 p0) (x0 : Int) (i0 : Nat) (hx0 : (letters p0)[i0]? = some x0) (_hi0 : i0 < List.length (letters p0)) (hc0 : (decide ((i0 : Int) < (ByteArray.size p0 : Int))) = true) (h0 : (decide (97 ≤ x0)) = true) (h1 : (decide (x0 ≤ 122)) = false) (h2 : (decide (65 ≤ x0)) = true) (h3 : (decide (x0 ≤ 90)) = true) {r : Rs} (hr : Tells G (E_K1q_b0 p0 (i0 + 1)) r) : Tells G (E_K1q_b0 p0 i0) r := by
  have hB0 := H.1; have e0 := of_decide_eq_true h0; have e1 := of_decide_eq_false h1; have e2 := of_decide_eq_true h2; have e3 := of_decide_eq_true h3
  exact tells_nextVI VOK.nil (y := (HE_K1q_b0 p0 (i0 + 1), HO_K1q_b0 p0 (i0 + 1))) [hB 0 hc0, hP 4 (six_ok p0 i0 x0 hx0), hB 2 h0, hB 2 h1, hB 3 h2, hB 2 h3, hP 23 (inc_ok i0 (by omega))] [] (by kernel_rfl) hr
theorem n_K1q_b0_3 (p0 : ByteArray) (H : H_K1q_b0 p0) (x0 : Int) (i0 : Nat) (hx0 : (letters p0)[i0]? = some x0) (_hi0 : i0 < List.length (letters p0)) (hc0 : (decide ((i0 : Int) < (ByteArray.size p0 : Int))) = true) (h0 : (decide (97 ≤ x0)) = true) (h1 : (decide (x0 ≤ 122)) = false) (h2 : (decide (65 ≤ x0)) = true) (h3 : (decide (x0 ≤ 90)) = false) (h4 : (decide (48 ≤ x0)) = true) (h5 : (decide (x0 ≤ 57)) = true) {r : Rs} (hr : Tells G (E_K1q_b0 p0 (i0 + 1)) r) : Tells G (E_K1q_b0 p0 i0) r := by
  have hB0 := H.1; have e0 := of_decide_eq_true h0; have e1 := of_decide_eq_false h1; have e2 := of_decide_eq_true h2; have e3 := of_decide_eq_false h3; have e4 := of_decide_eq_true h4; have e5 := of_decide_eq_true h5
  exact tells_nextVI VOK.nil (y := (HE_K1q_b0 p0 (i0 + 1), HO_K1q_b0 p0 (i0 + 1))) [hB 0 hc0, hP 4 (six_ok p0 i0 x0 hx0), hB 2 h0, hB 2 h1, hB 3 h2, hB 2 h3, hB 4 h4, hB 2 h5, hP 15 (inc_ok i0 (by omega))] [] (by kernel_rfl) hr
theorem n_K1q_b0_4 (p0 : ByteArray) (H : H_K1q_b0 p0) (x0 : Int) (i0 : Nat) (hx0 : (letters p0)[i0]? = some x0) (_hi0 : i0 < List.length (letters p0)) (hc0 : (decide ((i0 : Int) < (ByteArray.size p0 : Int))) = true) (h0 : (decide (97 ≤ x0)) = true) (h1 : (decide (x0 ≤ 122)) = false) (h2 : (decide (65 ≤ x0)) = true) (h3 : (decide (x0 ≤ 90)) = false) (h4 : (decide (48 ≤ x0)) = true) (h5 : (decide (x0 ≤ 57)) = false) (h6 : (x0 == 45) = true) {r : Rs} (hr : Tells G (E_K1q_b0 p0 (i0 + 1)) r) : Tells G (E_K1q_b0 p0 i0) r := by
  have hB0 := H.1; have e0 := of_decide_eq_true h0; have e1 := of_decide_eq_false h1; have e2 := of_decide_eq_true h2; have e3 := of_decide_eq_false h3; have e4 := of_decide_eq_true h4; have e5 := of_decide_eq_false h5; have e6 := eq_of_beq h6
  exact tells_nextVI VOK.nil (y := (HE_K1q_b0 p0 (i0 + 1), HO_K1q_b0 p0 (i0 + 1))) [hB 0 hc0, hP 4 (six_ok p0 i0 x0 hx0), hB 2 h0, hB 2 h1, hB 3 h2, hB 2 h3, hB 4 h4, hB 2 h5, hB 4 h6, hP 10 (inc_ok i0 (by omega))] [] (by kernel_rfl) hr
theorem n_K1q_b0_5 (p0 : ByteArray) (H : H_K1q_b0 p0) (x0 : Int) (i0 : Nat) (hx0 : (letters p0)[i0]? = some x0) (_hi0 : i0 < List.length (letters p0)) (hc0 : (decide ((i0 : Int) < (ByteArray.size p0 : Int))) = true) (h0 : (decide (97 ≤ x0)) = true) (h1 : (decide (x0 ≤ 122)) = false) (h2 : (decide (65 ≤ x0)) = true) (h3 : (decide (x0 ≤ 90)) = false) (h4 : (decide (48 ≤ x0)) = true) (h5 : (decide (x0 ≤ 57)) = false) (h6 : (x0 == 45) = false) (h7 : (x0 == 95) = true) {r : Rs} (hr : Tells G (E_K1q_b0 p0 (i0 + 1)) r) : Tells G (E_K1q_b0 p0 i0) r := by
  have hB0 := H.1; have e0 := of_decide_eq_true h0; have e1 := of_decide_eq_false h1; have e2 := of_decide_eq_true h2; have e3 := of_decide_eq_false h3; have e4 := of_decide_eq_true h4; have e5 := of_decide_eq_false h5; have e6 := beq_eq_false_iff_ne.1 h6; have e7 := eq_of_beq h7
  exact tells_nextVI VOK.nil (y := (HE_K1q_b0 p0 (i0 + 1), HO_K1q_b0 p0 (i0 + 1))) [hB 0 hc0, hP 4 (six_ok p0 i0 x0 hx0), hB 2 h0, hB 2 h1, hB 3 h2, hB 2 h3, hB 4 h4, hB 2 h5, hB 4 h6, hB 3 h7, hP 6 (inc_ok i0 (by omega))] [] (by kernel_rfl) hr
theorem n_K1q_b0_6 (p0 : ByteArray) (H : H_K1q_b0 p0) (x0 : Int) (i0 : Nat) (hx0 : (letters p0)[i0]? = some x0) (_hi0 : i0 < List.length (letters p0)) (hc0 : (decide ((i0 : Int) < (ByteArray.size p0 : Int))) = true) (h0 : (decide (97 ≤ x0)) = true) (h1 : (decide (x0 ≤ 122)) = false) (h2 : (decide (65 ≤ x0)) = true) (h3 : (decide (x0 ≤ 90)) = false) (h4 : (decide (48 ≤ x0)) = true) (h5 : (decide (x0 ≤ 57)) = false) (h6 : (x0 == 45) = false) (h7 : (x0 == 95) = false) (h8 : (x0 == 47) = true) {r : Rs} (hr : Tells G (E_K1q_b0 p0 (i0 + 1)) r) : Tells G (E_K1q_b0 p0 i0) r := by
  have hB0 := H.1; have e0 := of_decide_eq_true h0; have e1 := of_decide_eq_false h1; have e2 := of_decide_eq_true h2; have e3 := of_decide_eq_false h3; have e4 := of_decide_eq_true h4; have e5 := of_decide_eq_false h5; have e6 := beq_eq_false_iff_ne.1 h6; have e7 := beq_eq_false_iff_ne.1 h7; have e8 := eq_of_beq h8
  exact tells_nextVI VOK.nil (y := (HE_K1q_b0 p0 (i0 + 1), HO_K1q_b0 p0 (i0 + 1))) [hB 0 hc0, hP 4 (six_ok p0 i0 x0 hx0), hB 2 h0, hB 2 h1, hB 3 h2, hB 2 h3, hB 4 h4, hB 2 h5, hB 4 h6, hB 3 h7, hB 3 h8, hP 2 (inc_ok i0 (by omega))] [] (by kernel_rfl) hr
def Z_K1q_b0_7 (p0 : ByteArray) (i0 : Nat) (x0 : Int) : List PV :=
  [.str p0, .un, .un, .int .i64 (i0 : Int), .int .u8 x0, .un, .int .i64 (ByteArray.size p0 : Int), .int .i64 (i0 : Int), .bool true, .int .i64 (i0 : Int), .str p0, .int .i64 (i0 : Int), .int .u8 x0, .int .u8 x0, .bool true, .bool true, .int .u8 x0, .bool false, .bool false, .bool false, .int .u8 x0, .bool true, .bool true, .int .u8 x0, .bool false, .bool false, .bool false, .bool false, .int .u8 x0, .bool true, .bool true, .int .u8 x0, .bool false, .bool false, .bool false, .bool false, .int .u8 x0, .bool false, .bool false, .bool false, .int .u8 x0, .bool false, .bool false, .bool false, .int .u8 x0, .bool false, .bool false, .bool true]
def ZO_K1q_b0_7 (_p0 : ByteArray) (_i0 : Nat) (_x0 : Int) : List (Nat × List PV) :=
  []
theorem x_K1q_b0_7 (p0 : ByteArray) (_H : H_K1q_b0 p0) (x0 : Int) (i0 : Nat) (hx0 : (letters p0)[i0]? = some x0) (_hi0 : i0 < List.length (letters p0)) (hc0 : (decide ((i0 : Int) < (ByteArray.size p0 : Int))) = true) (h0 : (decide (97 ≤ x0)) = true) (h1 : (decide (x0 ≤ 122)) = false) (h2 : (decide (65 ≤ x0)) = true) (h3 : (decide (x0 ≤ 90)) = false) (h4 : (decide (48 ≤ x0)) = true) (h5 : (decide (x0 ≤ 57)) = false) (h6 : (x0 == 45) = false) (h7 : (x0 == 95) = false) (h8 : (x0 == 47) = false) : P_K1q_b0 p0 (E_K1q_b0 p0 i0) (.k1) := by
  exact ⟨(envF (Z_K1q_b0_7 p0 i0 x0)), (zoF (ZO_K1q_b0_7 p0 i0 x0)), tells_outVI VOK.nil (x := (.ret, S_K1q_b0_1 p0 (envF (Z_K1q_b0_7 p0 i0 x0)) (zoF (ZO_K1q_b0_7 p0 i0 x0)))) [hB 0 hc0, hP 4 (six_ok p0 i0 x0 hx0), hB 2 h0, hB 2 h1, hB 3 h2, hB 2 h3, hB 4 h4, hB 2 h5, hB 4 h6, hB 3 h7, hB 3 h8] [] (by kernel_rfl)⟩
theorem n_K1q_b0_8 (p0 : ByteArray) (H : H_K1q_b0 p0) (x0 : Int) (i0 : Nat) (hx0 : (letters p0)[i0]? = some x0) (_hi0 : i0 < List.length (letters p0)) (hc0 : (decide ((i0 : Int) < (ByteArray.size p0 : Int))) = true) (h0 : (decide (97 ≤ x0)) = true) (h1 : (decide (x0 ≤ 122)) = false) (h2 : (decide (65 ≤ x0)) = true) (h3 : (decide (x0 ≤ 90)) = false) (h4 : (decide (48 ≤ x0)) = false) (h5 : (x0 == 45) = true) {r : Rs} (hr : Tells G (E_K1q_b0 p0 (i0 + 1)) r) : Tells G (E_K1q_b0 p0 i0) r := by
  have hB0 := H.1; have e0 := of_decide_eq_true h0; have e1 := of_decide_eq_false h1; have e2 := of_decide_eq_true h2; have e3 := of_decide_eq_false h3; have e4 := of_decide_eq_false h4; have e5 := eq_of_beq h5
  exact tells_nextVI VOK.nil (y := (HE_K1q_b0 p0 (i0 + 1), HO_K1q_b0 p0 (i0 + 1))) [hB 0 hc0, hP 4 (six_ok p0 i0 x0 hx0), hB 2 h0, hB 2 h1, hB 3 h2, hB 2 h3, hB 4 h4, hB 7 h5, hP 10 (inc_ok i0 (by omega))] [] (by kernel_rfl) hr
theorem n_K1q_b0_9 (p0 : ByteArray) (H : H_K1q_b0 p0) (x0 : Int) (i0 : Nat) (hx0 : (letters p0)[i0]? = some x0) (_hi0 : i0 < List.length (letters p0)) (hc0 : (decide ((i0 : Int) < (ByteArray.size p0 : Int))) = true) (h0 : (decide (97 ≤ x0)) = true) (h1 : (decide (x0 ≤ 122)) = false) (h2 : (decide (65 ≤ x0)) = true) (h3 : (decide (x0 ≤ 90)) = false) (h4 : (decide (48 ≤ x0)) = false) (h5 : (x0 == 45) = false) (h6 : (x0 == 95) = true) {r : Rs} (hr : Tells G (E_K1q_b0 p0 (i0 + 1)) r) : Tells G (E_K1q_b0 p0 i0) r := by
  have hB0 := H.1; have e0 := of_decide_eq_true h0; have e1 := of_decide_eq_false h1; have e2 := of_decide_eq_true h2; have e3 := of_decide_eq_false h3; have e4 := of_decide_eq_false h4; have e5 := beq_eq_false_iff_ne.1 h5; have e6 := eq_of_beq h6
  exact tells_nextVI VOK.nil (y := (HE_K1q_b0 p0 (i0 + 1), HO_K1q_b0 p0 (i0 + 1))) [hB 0 hc0, hP 4 (six_ok p0 i0 x0 hx0), hB 2 h0, hB 2 h1, hB 3 h2, hB 2 h3, hB 4 h4, hB 7 h5, hB 3 h6, hP 6 (inc_ok i0 (by omega))] [] (by kernel_rfl) hr
theorem n_K1q_b0_10 (p0 : ByteArray) (H : H_K1q_b0 p0) (x0 : Int) (i0 : Nat) (hx0 : (letters p0)[i0]? = some x0) (_hi0 : i0 < List.length (letters p0)) (hc0 : (decide ((i0 : Int) < (ByteArray.size p0 : Int))) = true) (h0 : (decide (97 ≤ x0)) = true) (h1 : (decide (x0 ≤ 122)) = false) (h2 : (decide (65 ≤ x0)) = true) (h3 : (decide (x0 ≤ 90)) = false) (h4 : (decide (48 ≤ x0)) = false) (h5 : (x0 == 45) = false) (h6 : (x0 == 95) = false) (h7 : (x0 == 47) = true) {r : Rs} (hr : Tells G (E_K1q_b0 p0 (i0 + 1)) r) : Tells G (E_K1q_b0 p0 i0) r := by
  have hB0 := H.1; have e0 := of_decide_eq_true h0; have e1 := of_decide_eq_false h1; have e2 := of_decide_eq_true h2; have e3 := of_decide_eq_false h3; have e4 := of_decide_eq_false h4; have e5 := beq_eq_false_iff_ne.1 h5; have e6 := beq_eq_false_iff_ne.1 h6; have e7 := eq_of_beq h7
  exact tells_nextVI VOK.nil (y := (HE_K1q_b0 p0 (i0 + 1), HO_K1q_b0 p0 (i0 + 1))) [hB 0 hc0, hP 4 (six_ok p0 i0 x0 hx0), hB 2 h0, hB 2 h1, hB 3 h2, hB 2 h3, hB 4 h4, hB 7 h5, hB 3 h6, hB 3 h7, hP 2 (inc_ok i0 (by omega))] [] (by kernel_rfl) hr
def Z_K1q_b0_11 (p0 : ByteArray) (i0 : Nat) (x0 : Int) : List PV :=
  [.str p0, .un, .un, .int .i64 (i0 : Int), .int .u8 x0, .un, .int .i64 (ByteArray.size p0 : Int), .int .i64 (i0 : Int), .bool true, .int .i64 (i0 : Int), .str p0, .int .i64 (i0 : Int), .int .u8 x0, .int .u8 x0, .bool true, .bool true, .int .u8 x0, .bool false, .bool false, .bool false, .int .u8 x0, .bool true, .bool true, .int .u8 x0, .bool false, .bool false, .bool false, .bool false, .int .u8 x0, .bool false, .bool false, .tup [], .tup [], .bool false, .bool false, .bool false, .int .u8 x0, .bool false, .bool false, .bool false, .int .u8 x0, .bool false, .bool false, .bool false, .int .u8 x0, .bool false, .bool false, .bool true]
def ZO_K1q_b0_11 (_p0 : ByteArray) (_i0 : Nat) (_x0 : Int) : List (Nat × List PV) :=
  []
theorem x_K1q_b0_11 (p0 : ByteArray) (_H : H_K1q_b0 p0) (x0 : Int) (i0 : Nat) (hx0 : (letters p0)[i0]? = some x0) (_hi0 : i0 < List.length (letters p0)) (hc0 : (decide ((i0 : Int) < (ByteArray.size p0 : Int))) = true) (h0 : (decide (97 ≤ x0)) = true) (h1 : (decide (x0 ≤ 122)) = false) (h2 : (decide (65 ≤ x0)) = true) (h3 : (decide (x0 ≤ 90)) = false) (h4 : (decide (48 ≤ x0)) = false) (h5 : (x0 == 45) = false) (h6 : (x0 == 95) = false) (h7 : (x0 == 47) = false) : P_K1q_b0 p0 (E_K1q_b0 p0 i0) (.k1) := by
  exact ⟨(envF (Z_K1q_b0_11 p0 i0 x0)), (zoF (ZO_K1q_b0_11 p0 i0 x0)), tells_outVI VOK.nil (x := (.ret, S_K1q_b0_1 p0 (envF (Z_K1q_b0_11 p0 i0 x0)) (zoF (ZO_K1q_b0_11 p0 i0 x0)))) [hB 0 hc0, hP 4 (six_ok p0 i0 x0 hx0), hB 2 h0, hB 2 h1, hB 3 h2, hB 2 h3, hB 4 h4, hB 7 h5, hB 3 h6, hB 3 h7] [] (by kernel_rfl)⟩
theorem n_K1q_b0_12 (p0 : ByteArray) (H : H_K1q_b0 p0) (x0 : Int) (i0 : Nat) (hx0 : (letters p0)[i0]? = some x0) (_hi0 : i0 < List.length (letters p0)) (hc0 : (decide ((i0 : Int) < (ByteArray.size p0 : Int))) = true) (h0 : (decide (97 ≤ x0)) = true) (h1 : (decide (x0 ≤ 122)) = false) (h2 : (decide (65 ≤ x0)) = false) (h3 : (decide (48 ≤ x0)) = true) (h4 : (decide (x0 ≤ 57)) = true) {r : Rs} (hr : Tells G (E_K1q_b0 p0 (i0 + 1)) r) : Tells G (E_K1q_b0 p0 i0) r := by
  have hB0 := H.1; have e0 := of_decide_eq_true h0; have e1 := of_decide_eq_false h1; have e2 := of_decide_eq_false h2; have e3 := of_decide_eq_true h3; have e4 := of_decide_eq_true h4
  exact tells_nextVI VOK.nil (y := (HE_K1q_b0 p0 (i0 + 1), HO_K1q_b0 p0 (i0 + 1))) [hB 0 hc0, hP 4 (six_ok p0 i0 x0 hx0), hB 2 h0, hB 2 h1, hB 3 h2, hB 7 h3, hB 2 h4, hP 15 (inc_ok i0 (by omega))] [] (by kernel_rfl) hr
theorem n_K1q_b0_13 (p0 : ByteArray) (H : H_K1q_b0 p0) (x0 : Int) (i0 : Nat) (hx0 : (letters p0)[i0]? = some x0) (_hi0 : i0 < List.length (letters p0)) (hc0 : (decide ((i0 : Int) < (ByteArray.size p0 : Int))) = true) (h0 : (decide (97 ≤ x0)) = true) (h1 : (decide (x0 ≤ 122)) = false) (h2 : (decide (65 ≤ x0)) = false) (h3 : (decide (48 ≤ x0)) = true) (h4 : (decide (x0 ≤ 57)) = false) (h5 : (x0 == 45) = true) {r : Rs} (hr : Tells G (E_K1q_b0 p0 (i0 + 1)) r) : Tells G (E_K1q_b0 p0 i0) r := by
  have hB0 := H.1; have e0 := of_decide_eq_true h0; have e1 := of_decide_eq_false h1; have e2 := of_decide_eq_false h2; have e3 := of_decide_eq_true h3; have e4 := of_decide_eq_false h4; have e5 := eq_of_beq h5
  exact tells_nextVI VOK.nil (y := (HE_K1q_b0 p0 (i0 + 1), HO_K1q_b0 p0 (i0 + 1))) [hB 0 hc0, hP 4 (six_ok p0 i0 x0 hx0), hB 2 h0, hB 2 h1, hB 3 h2, hB 7 h3, hB 2 h4, hB 4 h5, hP 10 (inc_ok i0 (by omega))] [] (by kernel_rfl) hr
theorem n_K1q_b0_14 (p0 : ByteArray) (H : H_K1q_b0 p0) (x0 : Int) (i0 : Nat) (hx0 : (letters p0)[i0]? = some x0) (_hi0 : i0 < List.length (letters p0)) (hc0 : (decide ((i0 : Int) < (ByteArray.size p0 : Int))) = true) (h0 : (decide (97 ≤ x0)) = true) (h1 : (decide (x0 ≤ 122)) = false) (h2 : (decide (65 ≤ x0)) = false) (h3 : (decide (48 ≤ x0)) = true) (h4 : (decide (x0 ≤ 57)) = false) (h5 : (x0 == 45) = false) (h6 : (x0 == 95) = true) {r : Rs} (hr : Tells G (E_K1q_b0 p0 (i0 + 1)) r) : Tells G (E_K1q_b0 p0 i0) r := by
  have hB0 := H.1; have e0 := of_decide_eq_true h0; have e1 := of_decide_eq_false h1; have e2 := of_decide_eq_false h2; have e3 := of_decide_eq_true h3; have e4 := of_decide_eq_false h4; have e5 := beq_eq_false_iff_ne.1 h5; have e6 := eq_of_beq h6
  exact tells_nextVI VOK.nil (y := (HE_K1q_b0 p0 (i0 + 1), HO_K1q_b0 p0 (i0 + 1))) [hB 0 hc0, hP 4 (six_ok p0 i0 x0 hx0), hB 2 h0, hB 2 h1, hB 3 h2, hB 7 h3, hB 2 h4, hB 4 h5, hB 3 h6, hP 6 (inc_ok i0 (by omega))] [] (by kernel_rfl) hr
theorem n_K1q_b0_15 (p0 : ByteArray) (H : H_K1q_b0 p0) (x0 : Int) (i0 : Nat) (hx0 : (letters p0)[i0]? = some x0) (_hi0 : i0 < List.length (letters p0)) (hc0 : (decide ((i0 : Int) < (ByteArray.size p0 : Int))) = true) (h0 : (decide (97 ≤ x0)) = true) (h1 : (decide (x0 ≤ 122)) = false) (h2 : (decide (65 ≤ x0)) = false) (h3 : (decide (48 ≤ x0)) = true) (h4 : (decide (x0 ≤ 57)) = false) (h5 : (x0 == 45) = false) (h6 : (x0 == 95) = false) (h7 : (x0 == 47) = true) {r : Rs} (hr : Tells G (E_K1q_b0 p0 (i0 + 1)) r) : Tells G (E_K1q_b0 p0 i0) r := by
  have hB0 := H.1; have e0 := of_decide_eq_true h0; have e1 := of_decide_eq_false h1; have e2 := of_decide_eq_false h2; have e3 := of_decide_eq_true h3; have e4 := of_decide_eq_false h4; have e5 := beq_eq_false_iff_ne.1 h5; have e6 := beq_eq_false_iff_ne.1 h6; have e7 := eq_of_beq h7
  exact tells_nextVI VOK.nil (y := (HE_K1q_b0 p0 (i0 + 1), HO_K1q_b0 p0 (i0 + 1))) [hB 0 hc0, hP 4 (six_ok p0 i0 x0 hx0), hB 2 h0, hB 2 h1, hB 3 h2, hB 7 h3, hB 2 h4, hB 4 h5, hB 3 h6, hB 3 h7, hP 2 (inc_ok i0 (by omega))] [] (by kernel_rfl) hr
def Z_K1q_b0_16 (p0 : ByteArray) (i0 : Nat) (x0 : Int) : List PV :=
  [.str p0, .un, .un, .int .i64 (i0 : Int), .int .u8 x0, .un, .int .i64 (ByteArray.size p0 : Int), .int .i64 (i0 : Int), .bool true, .int .i64 (i0 : Int), .str p0, .int .i64 (i0 : Int), .int .u8 x0, .int .u8 x0, .bool true, .bool true, .int .u8 x0, .bool false, .bool false, .bool false, .int .u8 x0, .bool false, .bool false, .tup [], .tup [], .bool false, .bool false, .bool false, .int .u8 x0, .bool true, .bool true, .int .u8 x0, .bool false, .bool false, .bool false, .bool false, .int .u8 x0, .bool false, .bool false, .bool false, .int .u8 x0, .bool false, .bool false, .bool false, .int .u8 x0, .bool false, .bool false, .bool true]
def ZO_K1q_b0_16 (_p0 : ByteArray) (_i0 : Nat) (_x0 : Int) : List (Nat × List PV) :=
  []
theorem x_K1q_b0_16 (p0 : ByteArray) (_H : H_K1q_b0 p0) (x0 : Int) (i0 : Nat) (hx0 : (letters p0)[i0]? = some x0) (_hi0 : i0 < List.length (letters p0)) (hc0 : (decide ((i0 : Int) < (ByteArray.size p0 : Int))) = true) (h0 : (decide (97 ≤ x0)) = true) (h1 : (decide (x0 ≤ 122)) = false) (h2 : (decide (65 ≤ x0)) = false) (h3 : (decide (48 ≤ x0)) = true) (h4 : (decide (x0 ≤ 57)) = false) (h5 : (x0 == 45) = false) (h6 : (x0 == 95) = false) (h7 : (x0 == 47) = false) : P_K1q_b0 p0 (E_K1q_b0 p0 i0) (.k1) := by
  exact ⟨(envF (Z_K1q_b0_16 p0 i0 x0)), (zoF (ZO_K1q_b0_16 p0 i0 x0)), tells_outVI VOK.nil (x := (.ret, S_K1q_b0_1 p0 (envF (Z_K1q_b0_16 p0 i0 x0)) (zoF (ZO_K1q_b0_16 p0 i0 x0)))) [hB 0 hc0, hP 4 (six_ok p0 i0 x0 hx0), hB 2 h0, hB 2 h1, hB 3 h2, hB 7 h3, hB 2 h4, hB 4 h5, hB 3 h6, hB 3 h7] [] (by kernel_rfl)⟩
theorem n_K1q_b0_17 (p0 : ByteArray) (H : H_K1q_b0 p0) (x0 : Int) (i0 : Nat) (hx0 : (letters p0)[i0]? = some x0) (_hi0 : i0 < List.length (letters p0)) (hc0 : (decide ((i0 : Int) < (ByteArray.size p0 : Int))) = true) (h0 : (decide (97 ≤ x0)) = true) (h1 : (decide (x0 ≤ 122)) = false) (h2 : (decide (65 ≤ x0)) = false) (h3 : (decide (48 ≤ x0)) = false) (h4 : (x0 == 45) = true) {r : Rs} (hr : Tells G (E_K1q_b0 p0 (i0 + 1)) r) : Tells G (E_K1q_b0 p0 i0) r := by
  have hB0 := H.1; have e0 := of_decide_eq_true h0; have e1 := of_decide_eq_false h1; have e2 := of_decide_eq_false h2; have e3 := of_decide_eq_false h3; have e4 := eq_of_beq h4
  exact tells_nextVI VOK.nil (y := (HE_K1q_b0 p0 (i0 + 1), HO_K1q_b0 p0 (i0 + 1))) [hB 0 hc0, hP 4 (six_ok p0 i0 x0 hx0), hB 2 h0, hB 2 h1, hB 3 h2, hB 7 h3, hB 7 h4, hP 10 (inc_ok i0 (by omega))] [] (by kernel_rfl) hr
theorem n_K1q_b0_18 (p0 : ByteArray) (H : H_K1q_b0 p0) (x0 : Int) (i0 : Nat) (hx0 : (letters p0)[i0]? = some x0) (_hi0 : i0 < List.length (letters p0)) (hc0 : (decide ((i0 : Int) < (ByteArray.size p0 : Int))) = true) (h0 : (decide (97 ≤ x0)) = true) (h1 : (decide (x0 ≤ 122)) = false) (h2 : (decide (65 ≤ x0)) = false) (h3 : (decide (48 ≤ x0)) = false) (h4 : (x0 == 45) = false) (h5 : (x0 == 95) = true) {r : Rs} (hr : Tells G (E_K1q_b0 p0 (i0 + 1)) r) : Tells G (E_K1q_b0 p0 i0) r := by
  have hB0 := H.1; have e0 := of_decide_eq_true h0; have e1 := of_decide_eq_false h1; have e2 := of_decide_eq_false h2; have e3 := of_decide_eq_false h3; have e4 := beq_eq_false_iff_ne.1 h4; have e5 := eq_of_beq h5
  exact tells_nextVI VOK.nil (y := (HE_K1q_b0 p0 (i0 + 1), HO_K1q_b0 p0 (i0 + 1))) [hB 0 hc0, hP 4 (six_ok p0 i0 x0 hx0), hB 2 h0, hB 2 h1, hB 3 h2, hB 7 h3, hB 7 h4, hB 3 h5, hP 6 (inc_ok i0 (by omega))] [] (by kernel_rfl) hr
theorem n_K1q_b0_19 (p0 : ByteArray) (H : H_K1q_b0 p0) (x0 : Int) (i0 : Nat) (hx0 : (letters p0)[i0]? = some x0) (_hi0 : i0 < List.length (letters p0)) (hc0 : (decide ((i0 : Int) < (ByteArray.size p0 : Int))) = true) (h0 : (decide (97 ≤ x0)) = true) (h1 : (decide (x0 ≤ 122)) = false) (h2 : (decide (65 ≤ x0)) = false) (h3 : (decide (48 ≤ x0)) = false) (h4 : (x0 == 45) = false) (h5 : (x0 == 95) = false) (h6 : (x0 == 47) = true) {r : Rs} (hr : Tells G (E_K1q_b0 p0 (i0 + 1)) r) : Tells G (E_K1q_b0 p0 i0) r := by
  have hB0 := H.1; have e0 := of_decide_eq_true h0; have e1 := of_decide_eq_false h1; have e2 := of_decide_eq_false h2; have e3 := of_decide_eq_false h3; have e4 := beq_eq_false_iff_ne.1 h4; have e5 := beq_eq_false_iff_ne.1 h5; have e6 := eq_of_beq h6
  exact tells_nextVI VOK.nil (y := (HE_K1q_b0 p0 (i0 + 1), HO_K1q_b0 p0 (i0 + 1))) [hB 0 hc0, hP 4 (six_ok p0 i0 x0 hx0), hB 2 h0, hB 2 h1, hB 3 h2, hB 7 h3, hB 7 h4, hB 3 h5, hB 3 h6, hP 2 (inc_ok i0 (by omega))] [] (by kernel_rfl) hr
def Z_K1q_b0_20 (p0 : ByteArray) (i0 : Nat) (x0 : Int) : List PV :=
  [.str p0, .un, .un, .int .i64 (i0 : Int), .int .u8 x0, .un, .int .i64 (ByteArray.size p0 : Int), .int .i64 (i0 : Int), .bool true, .int .i64 (i0 : Int), .str p0, .int .i64 (i0 : Int), .int .u8 x0, .int .u8 x0, .bool true, .bool true, .int .u8 x0, .bool false, .bool false, .bool false, .int .u8 x0, .bool false, .bool false, .tup [], .tup [], .bool false, .bool false, .bool false, .int .u8 x0, .bool false, .bool false, .tup [], .tup [], .bool false, .bool false, .bool false, .int .u8 x0, .bool false, .bool false, .bool false, .int .u8 x0, .bool false, .bool false, .bool false, .int .u8 x0, .bool false, .bool false, .bool true]
def ZO_K1q_b0_20 (_p0 : ByteArray) (_i0 : Nat) (_x0 : Int) : List (Nat × List PV) :=
  []
theorem x_K1q_b0_20 (p0 : ByteArray) (_H : H_K1q_b0 p0) (x0 : Int) (i0 : Nat) (hx0 : (letters p0)[i0]? = some x0) (_hi0 : i0 < List.length (letters p0)) (hc0 : (decide ((i0 : Int) < (ByteArray.size p0 : Int))) = true) (h0 : (decide (97 ≤ x0)) = true) (h1 : (decide (x0 ≤ 122)) = false) (h2 : (decide (65 ≤ x0)) = false) (h3 : (decide (48 ≤ x0)) = false) (h4 : (x0 == 45) = false) (h5 : (x0 == 95) = false) (h6 : (x0 == 47) = false) : P_K1q_b0 p0 (E_K1q_b0 p0 i0) (.k1) := by
  exact ⟨(envF (Z_K1q_b0_20 p0 i0 x0)), (zoF (ZO_K1q_b0_20 p0 i0 x0)), tells_outVI VOK.nil (x := (.ret, S_K1q_b0_1 p0 (envF (Z_K1q_b0_20 p0 i0 x0)) (zoF (ZO_K1q_b0_20 p0 i0 x0)))) [hB 0 hc0, hP 4 (six_ok p0 i0 x0 hx0), hB 2 h0, hB 2 h1, hB 3 h2, hB 7 h3, hB 7 h4, hB 3 h5, hB 3 h6] [] (by kernel_rfl)⟩
theorem n_K1q_b0_21 (p0 : ByteArray) (H : H_K1q_b0 p0) (x0 : Int) (i0 : Nat) (hx0 : (letters p0)[i0]? = some x0) (hi0 : i0 < List.length (letters p0)) (hc0 : (decide ((i0 : Int) < (ByteArray.size p0 : Int))) = true) (h0 : (decide (97 ≤ x0)) = false) (h1 : (decide (65 ≤ x0)) = true) (h2 : (decide (x0 ≤ 90)) = true) {r : Rs} (hr : Tells G (E_K1q_b0 p0 (i0 + 1)) r) : Tells G (E_K1q_b0 p0 i0) r := by
  have hB0 := H.1; have e0 := of_decide_eq_false h0; have e1 := of_decide_eq_true h1; have e2 := of_decide_eq_true h2
  exact tells_nextVI VOK.nil (y := (HE_K1q_b0 p0 (i0 + 1), HO_K1q_b0 p0 (i0 + 1))) [hB 0 hc0, hP 4 (six_ok p0 i0 x0 hx0), hB 2 h0, hB 6 h1, hB 2 h2, hP 23 (inc_ok i0 (by omega))] [] (by kernel_rfl) hr
theorem n_K1q_b0_22 (p0 : ByteArray) (H : H_K1q_b0 p0) (x0 : Int) (i0 : Nat) (hx0 : (letters p0)[i0]? = some x0) (_hi0 : i0 < List.length (letters p0)) (hc0 : (decide ((i0 : Int) < (ByteArray.size p0 : Int))) = true) (h0 : (decide (97 ≤ x0)) = false) (h1 : (decide (65 ≤ x0)) = true) (h2 : (decide (x0 ≤ 90)) = false) (h3 : (decide (48 ≤ x0)) = true) (h4 : (decide (x0 ≤ 57)) = true) {r : Rs} (hr : Tells G (E_K1q_b0 p0 (i0 + 1)) r) : Tells G (E_K1q_b0 p0 i0) r := by
  have hB0 := H.1; have e0 := of_decide_eq_false h0; have e1 := of_decide_eq_true h1; have e2 := of_decide_eq_false h2; have e3 := of_decide_eq_true h3; have e4 := of_decide_eq_true h4
  exact tells_nextVI VOK.nil (y := (HE_K1q_b0 p0 (i0 + 1), HO_K1q_b0 p0 (i0 + 1))) [hB 0 hc0, hP 4 (six_ok p0 i0 x0 hx0), hB 2 h0, hB 6 h1, hB 2 h2, hB 4 h3, hB 2 h4, hP 15 (inc_ok i0 (by omega))] [] (by kernel_rfl) hr
theorem n_K1q_b0_23 (p0 : ByteArray) (H : H_K1q_b0 p0) (x0 : Int) (i0 : Nat) (hx0 : (letters p0)[i0]? = some x0) (_hi0 : i0 < List.length (letters p0)) (hc0 : (decide ((i0 : Int) < (ByteArray.size p0 : Int))) = true) (h0 : (decide (97 ≤ x0)) = false) (h1 : (decide (65 ≤ x0)) = true) (h2 : (decide (x0 ≤ 90)) = false) (h3 : (decide (48 ≤ x0)) = true) (h4 : (decide (x0 ≤ 57)) = false) (h5 : (x0 == 45) = true) {r : Rs} (hr : Tells G (E_K1q_b0 p0 (i0 + 1)) r) : Tells G (E_K1q_b0 p0 i0) r := by
  have hB0 := H.1; have e0 := of_decide_eq_false h0; have e1 := of_decide_eq_true h1; have e2 := of_decide_eq_false h2; have e3 := of_decide_eq_true h3; have e4 := of_decide_eq_false h4; have e5 := eq_of_beq h5
  exact tells_nextVI VOK.nil (y := (HE_K1q_b0 p0 (i0 + 1), HO_K1q_b0 p0 (i0 + 1))) [hB 0 hc0, hP 4 (six_ok p0 i0 x0 hx0), hB 2 h0, hB 6 h1, hB 2 h2, hB 4 h3, hB 2 h4, hB 4 h5, hP 10 (inc_ok i0 (by omega))] [] (by kernel_rfl) hr
theorem n_K1q_b0_24 (p0 : ByteArray) (H : H_K1q_b0 p0) (x0 : Int) (i0 : Nat) (hx0 : (letters p0)[i0]? = some x0) (hi0 : i0 < List.length (letters p0)) (hc0 : (decide ((i0 : Int) < (ByteArray.size p0 : Int))) = true) (h0 : (decide (97 ≤ x0)) = false) (h1 : (decide (65 ≤ x0)) = true) (h2 : (decide (x0 ≤ 90)) = false) (h3 : (decide (48 ≤ x0)) = true) (h4 : (decide (x0 ≤ 57)) = false) (h5 : (x0 == 45) = false) (h6 : (x0 == 95) = true) {r : Rs} (hr : Tells G (E_K1q_b0 p0 (i0 + 1)) r) : Tells G (E_K1q_b0 p0 i0) r := by
  have hB0 := H.1; have e0 := of_decide_eq_false h0; have e1 := of_decide_eq_true h1; have e2 := of_decide_eq_false h2; have e3 := of_decide_eq_true h3; have e4 := of_decide_eq_false h4; have e5 := beq_eq_false_iff_ne.1 h5; have e6 := eq_of_beq h6
  exact tells_nextVI VOK.nil (y := (HE_K1q_b0 p0 (i0 + 1), HO_K1q_b0 p0 (i0 + 1))) [hB 0 hc0, hP 4 (six_ok p0 i0 x0 hx0), hB 2 h0, hB 6 h1, hB 2 h2, hB 4 h3, hB 2 h4, hB 4 h5, hB 3 h6, hP 6 (inc_ok i0 (by omega))] [] (by kernel_rfl) hr
theorem n_K1q_b0_25 (p0 : ByteArray) (H : H_K1q_b0 p0) (x0 : Int) (i0 : Nat) (hx0 : (letters p0)[i0]? = some x0) (_hi0 : i0 < List.length (letters p0)) (hc0 : (decide ((i0 : Int) < (ByteArray.size p0 : Int))) = true) (h0 : (decide (97 ≤ x0)) = false) (h1 : (decide (65 ≤ x0)) = true) (h2 : (decide (x0 ≤ 90)) = false) (h3 : (decide (48 ≤ x0)) = true) (h4 : (decide (x0 ≤ 57)) = false) (h5 : (x0 == 45) = false) (h6 : (x0 == 95) = false) (h7 : (x0 == 47) = true) {r : Rs} (hr : Tells G (E_K1q_b0 p0 (i0 + 1)) r) : Tells G (E_K1q_b0 p0 i0) r := by
  have hB0 := H.1; have e0 := of_decide_eq_false h0; have e1 := of_decide_eq_true h1; have e2 := of_decide_eq_false h2; have e3 := of_decide_eq_true h3; have e4 := of_decide_eq_false h4; have e5 := beq_eq_false_iff_ne.1 h5; have e6 := beq_eq_false_iff_ne.1 h6; have e7 := eq_of_beq h7
  exact tells_nextVI VOK.nil (y := (HE_K1q_b0 p0 (i0 + 1), HO_K1q_b0 p0 (i0 + 1))) [hB 0 hc0, hP 4 (six_ok p0 i0 x0 hx0), hB 2 h0, hB 6 h1, hB 2 h2, hB 4 h3, hB 2 h4, hB 4 h5, hB 3 h6, hB 3 h7, hP 2 (inc_ok i0 (by omega))] [] (by kernel_rfl) hr
def Z_K1q_b0_26 (p0 : ByteArray) (i0 : Nat) (x0 : Int) : List PV :=
  [.str p0, .un, .un, .int .i64 (i0 : Int), .int .u8 x0, .un, .int .i64 (ByteArray.size p0 : Int), .int .i64 (i0 : Int), .bool true, .int .i64 (i0 : Int), .str p0, .int .i64 (i0 : Int), .int .u8 x0, .int .u8 x0, .bool false, .bool false, .tup [], .tup [], .bool false, .bool false, .int .u8 x0, .bool true, .bool true, .int .u8 x0, .bool false, .bool false, .bool false, .bool false, .int .u8 x0, .bool true, .bool true, .int .u8 x0, .bool false, .bool false, .bool false, .bool false, .int .u8 x0, .bool false, .bool false, .bool false, .int .u8 x0, .bool false, .bool false, .bool false, .int .u8 x0, .bool false, .bool false, .bool true]
def ZO_K1q_b0_26 (_p0 : ByteArray) (_i0 : Nat) (_x0 : Int) : List (Nat × List PV) :=
  []
theorem x_K1q_b0_26 (p0 : ByteArray) (_H : H_K1q_b0 p0) (x0 : Int) (i0 : Nat) (hx0 : (letters p0)[i0]? = some x0) (_hi0 : i0 < List.length (letters p0)) (hc0 : (decide ((i0 : Int) < (ByteArray.size p0 : Int))) = true) (h0 : (decide (97 ≤ x0)) = false) (h1 : (decide (65 ≤ x0)) = true) (h2 : (decide (x0 ≤ 90)) = false) (h3 : (decide (48 ≤ x0)) = true) (h4 : (decide (x0 ≤ 57)) = false) (h5 : (x0 == 45) = false) (h6 : (x0 == 95) = false) (h7 : (x0 == 47) = false) : P_K1q_b0 p0 (E_K1q_b0 p0 i0) (.k1) := by
  exact ⟨(envF (Z_K1q_b0_26 p0 i0 x0)), (zoF (ZO_K1q_b0_26 p0 i0 x0)), tells_outVI VOK.nil (x := (.ret, S_K1q_b0_1 p0 (envF (Z_K1q_b0_26 p0 i0 x0)) (zoF (ZO_K1q_b0_26 p0 i0 x0)))) [hB 0 hc0, hP 4 (six_ok p0 i0 x0 hx0), hB 2 h0, hB 6 h1, hB 2 h2, hB 4 h3, hB 2 h4, hB 4 h5, hB 3 h6, hB 3 h7] [] (by kernel_rfl)⟩
theorem n_K1q_b0_27 (p0 : ByteArray) (H : H_K1q_b0 p0) (x0 : Int) (i0 : Nat) (hx0 : (letters p0)[i0]? = some x0) (_hi0 : i0 < List.length (letters p0)) (hc0 : (decide ((i0 : Int) < (ByteArray.size p0 : Int))) = true) (h0 : (decide (97 ≤ x0)) = false) (h1 : (decide (65 ≤ x0)) = true) (h2 : (decide (x0 ≤ 90)) = false) (h3 : (decide (48 ≤ x0)) = false) (h4 : (x0 == 45) = true) {r : Rs} (hr : Tells G (E_K1q_b0 p0 (i0 + 1)) r) : Tells G (E_K1q_b0 p0 i0) r := by
  have hB0 := H.1; have e0 := of_decide_eq_false h0; have e1 := of_decide_eq_true h1; have e2 := of_decide_eq_false h2; have e3 := of_decide_eq_false h3; have e4 := eq_of_beq h4
  exact tells_nextVI VOK.nil (y := (HE_K1q_b0 p0 (i0 + 1), HO_K1q_b0 p0 (i0 + 1))) [hB 0 hc0, hP 4 (six_ok p0 i0 x0 hx0), hB 2 h0, hB 6 h1, hB 2 h2, hB 4 h3, hB 7 h4, hP 10 (inc_ok i0 (by omega))] [] (by kernel_rfl) hr
theorem n_K1q_b0_28 (p0 : ByteArray) (H : H_K1q_b0 p0) (x0 : Int) (i0 : Nat) (hx0 : (letters p0)[i0]? = some x0) (_hi0 : i0 < List.length (letters p0)) (hc0 : (decide ((i0 : Int) < (ByteArray.size p0 : Int))) = true) (h0 : (decide (97 ≤ x0)) = false) (h1 : (decide (65 ≤ x0)) = true) (h2 : (decide (x0 ≤ 90)) = false) (h3 : (decide (48 ≤ x0)) = false) (h4 : (x0 == 45) = false) (h5 : (x0 == 95) = true) {r : Rs} (hr : Tells G (E_K1q_b0 p0 (i0 + 1)) r) : Tells G (E_K1q_b0 p0 i0) r := by
  have hB0 := H.1; have e0 := of_decide_eq_false h0; have e1 := of_decide_eq_true h1; have e2 := of_decide_eq_false h2; have e3 := of_decide_eq_false h3; have e4 := beq_eq_false_iff_ne.1 h4; have e5 := eq_of_beq h5
  exact tells_nextVI VOK.nil (y := (HE_K1q_b0 p0 (i0 + 1), HO_K1q_b0 p0 (i0 + 1))) [hB 0 hc0, hP 4 (six_ok p0 i0 x0 hx0), hB 2 h0, hB 6 h1, hB 2 h2, hB 4 h3, hB 7 h4, hB 3 h5, hP 6 (inc_ok i0 (by omega))] [] (by kernel_rfl) hr
theorem n_K1q_b0_29 (p0 : ByteArray) (H : H_K1q_b0 p0) (x0 : Int) (i0 : Nat) (hx0 : (letters p0)[i0]? = some x0) (_hi0 : i0 < List.length (letters p0)) (hc0 : (decide ((i0 : Int) < (ByteArray.size p0 : Int))) = true) (h0 : (decide (97 ≤ x0)) = false) (h1 : (decide (65 ≤ x0)) = true) (h2 : (decide (x0 ≤ 90)) = false) (h3 : (decide (48 ≤ x0)) = false) (h4 : (x0 == 45) = false) (h5 : (x0 == 95) = false) (h6 : (x0 == 47) = true) {r : Rs} (hr : Tells G (E_K1q_b0 p0 (i0 + 1)) r) : Tells G (E_K1q_b0 p0 i0) r := by
  have hB0 := H.1; have e0 := of_decide_eq_false h0; have e1 := of_decide_eq_true h1; have e2 := of_decide_eq_false h2; have e3 := of_decide_eq_false h3; have e4 := beq_eq_false_iff_ne.1 h4; have e5 := beq_eq_false_iff_ne.1 h5; have e6 := eq_of_beq h6
  exact tells_nextVI VOK.nil (y := (HE_K1q_b0 p0 (i0 + 1), HO_K1q_b0 p0 (i0 + 1))) [hB 0 hc0, hP 4 (six_ok p0 i0 x0 hx0), hB 2 h0, hB 6 h1, hB 2 h2, hB 4 h3, hB 7 h4, hB 3 h5, hB 3 h6, hP 2 (inc_ok i0 (by omega))] [] (by kernel_rfl) hr
def Z_K1q_b0_30 (p0 : ByteArray) (i0 : Nat) (x0 : Int) : List PV :=
  [.str p0, .un, .un, .int .i64 (i0 : Int), .int .u8 x0, .un, .int .i64 (ByteArray.size p0 : Int), .int .i64 (i0 : Int), .bool true, .int .i64 (i0 : Int), .str p0, .int .i64 (i0 : Int), .int .u8 x0, .int .u8 x0, .bool false, .bool false, .tup [], .tup [], .bool false, .bool false, .int .u8 x0, .bool true, .bool true, .int .u8 x0, .bool false, .bool false, .bool false, .bool false, .int .u8 x0, .bool false, .bool false, .tup [], .tup [], .bool false, .bool false, .bool false, .int .u8 x0, .bool false, .bool false, .bool false, .int .u8 x0, .bool false, .bool false, .bool false, .int .u8 x0, .bool false, .bool false, .bool true]
def ZO_K1q_b0_30 (_p0 : ByteArray) (_i0 : Nat) (_x0 : Int) : List (Nat × List PV) :=
  []
theorem x_K1q_b0_30 (p0 : ByteArray) (_H : H_K1q_b0 p0) (x0 : Int) (i0 : Nat) (hx0 : (letters p0)[i0]? = some x0) (_hi0 : i0 < List.length (letters p0)) (hc0 : (decide ((i0 : Int) < (ByteArray.size p0 : Int))) = true) (h0 : (decide (97 ≤ x0)) = false) (h1 : (decide (65 ≤ x0)) = true) (h2 : (decide (x0 ≤ 90)) = false) (h3 : (decide (48 ≤ x0)) = false) (h4 : (x0 == 45) = false) (h5 : (x0 == 95) = false) (h6 : (x0 == 47) = false) : P_K1q_b0 p0 (E_K1q_b0 p0 i0) (.k1) := by
  exact ⟨(envF (Z_K1q_b0_30 p0 i0 x0)), (zoF (ZO_K1q_b0_30 p0 i0 x0)), tells_outVI VOK.nil (x := (.ret, S_K1q_b0_1 p0 (envF (Z_K1q_b0_30 p0 i0 x0)) (zoF (ZO_K1q_b0_30 p0 i0 x0)))) [hB 0 hc0, hP 4 (six_ok p0 i0 x0 hx0), hB 2 h0, hB 6 h1, hB 2 h2, hB 4 h3, hB 7 h4, hB 3 h5, hB 3 h6] [] (by kernel_rfl)⟩
theorem n_K1q_b0_31 (p0 : ByteArray) (H : H_K1q_b0 p0) (x0 : Int) (i0 : Nat) (hx0 : (letters p0)[i0]? = some x0) (hi0 : i0 < List.length (letters p0)) (hc0 : (decide ((i0 : Int) < (ByteArray.size p0 : Int))) = true) (h0 : (decide (97 ≤ x0)) = false) (h1 : (decide (65 ≤ x0)) = false) (h2 : (decide (48 ≤ x0)) = true) (h3 : (decide (x0 ≤ 57)) = true) {r : Rs} (hr : Tells G (E_K1q_b0 p0 (i0 + 1)) r) : Tells G (E_K1q_b0 p0 i0) r := by
  have hB0 := H.1; have e0 := of_decide_eq_false h0; have e1 := of_decide_eq_false h1; have e2 := of_decide_eq_true h2; have e3 := of_decide_eq_true h3
  exact tells_nextVI VOK.nil (y := (HE_K1q_b0 p0 (i0 + 1), HO_K1q_b0 p0 (i0 + 1))) [hB 0 hc0, hP 4 (six_ok p0 i0 x0 hx0), hB 2 h0, hB 6 h1, hB 7 h2, hB 2 h3, hP 15 (inc_ok i0 (by omega))] [] (by kernel_rfl) hr
theorem n_K1q_b0_32 (p0 : ByteArray) (H : H_K1q_b0 p0) (x0 : Int) (i0 : Nat) (hx0 : (letters p0)[i0]? = some x0) (_hi0 : i0 < List.length (letters p0)) (hc0 : (decide ((i0 : Int) < (ByteArray.size p0 : Int))) = true) (h0 : (decide (97 ≤ x0)) = false) (h1 : (decide (65 ≤ x0)) = false) (h2 : (decide (48 ≤ x0)) = true) (h3 : (decide (x0 ≤ 57)) = false) (h4 : (x0 == 45) = true) {r : Rs} (hr : Tells G (E_K1q_b0 p0 (i0 + 1)) r) : Tells G (E_K1q_b0 p0 i0) r := by
  have hB0 := H.1; have e0 := of_decide_eq_false h0; have e1 := of_decide_eq_false h1; have e2 := of_decide_eq_true h2; have e3 := of_decide_eq_false h3; have e4 := eq_of_beq h4
  exact tells_nextVI VOK.nil (y := (HE_K1q_b0 p0 (i0 + 1), HO_K1q_b0 p0 (i0 + 1))) [hB 0 hc0, hP 4 (six_ok p0 i0 x0 hx0), hB 2 h0, hB 6 h1, hB 7 h2, hB 2 h3, hB 4 h4, hP 10 (inc_ok i0 (by omega))] [] (by kernel_rfl) hr
theorem n_K1q_b0_33 (p0 : ByteArray) (H : H_K1q_b0 p0) (x0 : Int) (i0 : Nat) (hx0 : (letters p0)[i0]? = some x0) (_hi0 : i0 < List.length (letters p0)) (hc0 : (decide ((i0 : Int) < (ByteArray.size p0 : Int))) = true) (h0 : (decide (97 ≤ x0)) = false) (h1 : (decide (65 ≤ x0)) = false) (h2 : (decide (48 ≤ x0)) = true) (h3 : (decide (x0 ≤ 57)) = false) (h4 : (x0 == 45) = false) (h5 : (x0 == 95) = true) {r : Rs} (hr : Tells G (E_K1q_b0 p0 (i0 + 1)) r) : Tells G (E_K1q_b0 p0 i0) r := by
  have hB0 := H.1; have e0 := of_decide_eq_false h0; have e1 := of_decide_eq_false h1; have e2 := of_decide_eq_true h2; have e3 := of_decide_eq_false h3; have e4 := beq_eq_false_iff_ne.1 h4; have e5 := eq_of_beq h5
  exact tells_nextVI VOK.nil (y := (HE_K1q_b0 p0 (i0 + 1), HO_K1q_b0 p0 (i0 + 1))) [hB 0 hc0, hP 4 (six_ok p0 i0 x0 hx0), hB 2 h0, hB 6 h1, hB 7 h2, hB 2 h3, hB 4 h4, hB 3 h5, hP 6 (inc_ok i0 (by omega))] [] (by kernel_rfl) hr
theorem n_K1q_b0_34 (p0 : ByteArray) (H : H_K1q_b0 p0) (x0 : Int) (i0 : Nat) (hx0 : (letters p0)[i0]? = some x0) (_hi0 : i0 < List.length (letters p0)) (hc0 : (decide ((i0 : Int) < (ByteArray.size p0 : Int))) = true) (h0 : (decide (97 ≤ x0)) = false) (h1 : (decide (65 ≤ x0)) = false) (h2 : (decide (48 ≤ x0)) = true) (h3 : (decide (x0 ≤ 57)) = false) (h4 : (x0 == 45) = false) (h5 : (x0 == 95) = false) (h6 : (x0 == 47) = true) {r : Rs} (hr : Tells G (E_K1q_b0 p0 (i0 + 1)) r) : Tells G (E_K1q_b0 p0 i0) r := by
  have hB0 := H.1; have e0 := of_decide_eq_false h0; have e1 := of_decide_eq_false h1; have e2 := of_decide_eq_true h2; have e3 := of_decide_eq_false h3; have e4 := beq_eq_false_iff_ne.1 h4; have e5 := beq_eq_false_iff_ne.1 h5; have e6 := eq_of_beq h6
  exact tells_nextVI VOK.nil (y := (HE_K1q_b0 p0 (i0 + 1), HO_K1q_b0 p0 (i0 + 1))) [hB 0 hc0, hP 4 (six_ok p0 i0 x0 hx0), hB 2 h0, hB 6 h1, hB 7 h2, hB 2 h3, hB 4 h4, hB 3 h5, hB 3 h6, hP 2 (inc_ok i0 (by omega))] [] (by kernel_rfl) hr
def Z_K1q_b0_35 (p0 : ByteArray) (i0 : Nat) (x0 : Int) : List PV :=
  [.str p0, .un, .un, .int .i64 (i0 : Int), .int .u8 x0, .un, .int .i64 (ByteArray.size p0 : Int), .int .i64 (i0 : Int), .bool true, .int .i64 (i0 : Int), .str p0, .int .i64 (i0 : Int), .int .u8 x0, .int .u8 x0, .bool false, .bool false, .tup [], .tup [], .bool false, .bool false, .int .u8 x0, .bool false, .bool false, .tup [], .tup [], .bool false, .bool false, .bool false, .int .u8 x0, .bool true, .bool true, .int .u8 x0, .bool false, .bool false, .bool false, .bool false, .int .u8 x0, .bool false, .bool false, .bool false, .int .u8 x0, .bool false, .bool false, .bool false, .int .u8 x0, .bool false, .bool false, .bool true]
def ZO_K1q_b0_35 (_p0 : ByteArray) (_i0 : Nat) (_x0 : Int) : List (Nat × List PV) :=
  []
theorem x_K1q_b0_35 (p0 : ByteArray) (_H : H_K1q_b0 p0) (x0 : Int) (i0 : Nat) (hx0 : (letters p0)[i0]? = some x0) (_hi0 : i0 < List.length (letters p0)) (hc0 : (decide ((i0 : Int) < (ByteArray.size p0 : Int))) = true) (h0 : (decide (97 ≤ x0)) = false) (h1 : (decide (65 ≤ x0)) = false) (h2 : (decide (48 ≤ x0)) = true) (h3 : (decide (x0 ≤ 57)) = false) (h4 : (x0 == 45) = false) (h5 : (x0 == 95) = false) (h6 : (x0 == 47) = false) : P_K1q_b0 p0 (E_K1q_b0 p0 i0) (.k1) := by
  exact ⟨(envF (Z_K1q_b0_35 p0 i0 x0)), (zoF (ZO_K1q_b0_35 p0 i0 x0)), tells_outVI VOK.nil (x := (.ret, S_K1q_b0_1 p0 (envF (Z_K1q_b0_35 p0 i0 x0)) (zoF (ZO_K1q_b0_35 p0 i0 x0)))) [hB 0 hc0, hP 4 (six_ok p0 i0 x0 hx0), hB 2 h0, hB 6 h1, hB 7 h2, hB 2 h3, hB 4 h4, hB 3 h5, hB 3 h6] [] (by kernel_rfl)⟩
theorem n_K1q_b0_36 (p0 : ByteArray) (H : H_K1q_b0 p0) (x0 : Int) (i0 : Nat) (hx0 : (letters p0)[i0]? = some x0) (hi0 : i0 < List.length (letters p0)) (hc0 : (decide ((i0 : Int) < (ByteArray.size p0 : Int))) = true) (h0 : (decide (97 ≤ x0)) = false) (h1 : (decide (65 ≤ x0)) = false) (h2 : (decide (48 ≤ x0)) = false) (h3 : (x0 == 45) = true) {r : Rs} (hr : Tells G (E_K1q_b0 p0 (i0 + 1)) r) : Tells G (E_K1q_b0 p0 i0) r := by
  have hB0 := H.1; have e0 := of_decide_eq_false h0; have e1 := of_decide_eq_false h1; have e2 := of_decide_eq_false h2; have e3 := eq_of_beq h3
  exact tells_nextVI VOK.nil (y := (HE_K1q_b0 p0 (i0 + 1), HO_K1q_b0 p0 (i0 + 1))) [hB 0 hc0, hP 4 (six_ok p0 i0 x0 hx0), hB 2 h0, hB 6 h1, hB 7 h2, hB 7 h3, hP 10 (inc_ok i0 (by omega))] [] (by kernel_rfl) hr
theorem n_K1q_b0_37 (p0 : ByteArray) (H : H_K1q_b0 p0) (x0 : Int) (i0 : Nat) (hx0 : (letters p0)[i0]? = some x0) (_hi0 : i0 < List.length (letters p0)) (hc0 : (decide ((i0 : Int) < (ByteArray.size p0 : Int))) = true) (h0 : (decide (97 ≤ x0)) = false) (h1 : (decide (65 ≤ x0)) = false) (h2 : (decide (48 ≤ x0)) = false) (h3 : (x0 == 45) = false) (h4 : (x0 == 95) = true) {r : Rs} (hr : Tells G (E_K1q_b0 p0 (i0 + 1)) r) : Tells G (E_K1q_b0 p0 i0) r := by
  have hB0 := H.1; have e0 := of_decide_eq_false h0; have e1 := of_decide_eq_false h1; have e2 := of_decide_eq_false h2; have e3 := beq_eq_false_iff_ne.1 h3; have e4 := eq_of_beq h4
  exact tells_nextVI VOK.nil (y := (HE_K1q_b0 p0 (i0 + 1), HO_K1q_b0 p0 (i0 + 1))) [hB 0 hc0, hP 4 (six_ok p0 i0 x0 hx0), hB 2 h0, hB 6 h1, hB 7 h2, hB 7 h3, hB 3 h4, hP 6 (inc_ok i0 (by omega))] [] (by kernel_rfl) hr
theorem n_K1q_b0_38 (p0 : ByteArray) (H : H_K1q_b0 p0) (x0 : Int) (i0 : Nat) (hx0 : (letters p0)[i0]? = some x0) (hi0 : i0 < List.length (letters p0)) (hc0 : (decide ((i0 : Int) < (ByteArray.size p0 : Int))) = true) (h0 : (decide (97 ≤ x0)) = false) (h1 : (decide (65 ≤ x0)) = false) (h2 : (decide (48 ≤ x0)) = false) (h3 : (x0 == 45) = false) (h4 : (x0 == 95) = false) (h5 : (x0 == 47) = true) {r : Rs} (hr : Tells G (E_K1q_b0 p0 (i0 + 1)) r) : Tells G (E_K1q_b0 p0 i0) r := by
  have hB0 := H.1; have e0 := of_decide_eq_false h0; have e1 := of_decide_eq_false h1; have e2 := of_decide_eq_false h2; have e3 := beq_eq_false_iff_ne.1 h3; have e4 := beq_eq_false_iff_ne.1 h4; have e5 := eq_of_beq h5
  exact tells_nextVI VOK.nil (y := (HE_K1q_b0 p0 (i0 + 1), HO_K1q_b0 p0 (i0 + 1))) [hB 0 hc0, hP 4 (six_ok p0 i0 x0 hx0), hB 2 h0, hB 6 h1, hB 7 h2, hB 7 h3, hB 3 h4, hB 3 h5, hP 2 (inc_ok i0 (by omega))] [] (by kernel_rfl) hr
def Z_K1q_b0_39 (p0 : ByteArray) (i0 : Nat) (x0 : Int) : List PV :=
  [.str p0, .un, .un, .int .i64 (i0 : Int), .int .u8 x0, .un, .int .i64 (ByteArray.size p0 : Int), .int .i64 (i0 : Int), .bool true, .int .i64 (i0 : Int), .str p0, .int .i64 (i0 : Int), .int .u8 x0, .int .u8 x0, .bool false, .bool false, .tup [], .tup [], .bool false, .bool false, .int .u8 x0, .bool false, .bool false, .tup [], .tup [], .bool false, .bool false, .bool false, .int .u8 x0, .bool false, .bool false, .tup [], .tup [], .bool false, .bool false, .bool false, .int .u8 x0, .bool false, .bool false, .bool false, .int .u8 x0, .bool false, .bool false, .bool false, .int .u8 x0, .bool false, .bool false, .bool true]
def ZO_K1q_b0_39 (_p0 : ByteArray) (_i0 : Nat) (_x0 : Int) : List (Nat × List PV) :=
  []
theorem x_K1q_b0_39 (p0 : ByteArray) (_H : H_K1q_b0 p0) (x0 : Int) (i0 : Nat) (hx0 : (letters p0)[i0]? = some x0) (_hi0 : i0 < List.length (letters p0)) (hc0 : (decide ((i0 : Int) < (ByteArray.size p0 : Int))) = true) (h0 : (decide (97 ≤ x0)) = false) (h1 : (decide (65 ≤ x0)) = false) (h2 : (decide (48 ≤ x0)) = false) (h3 : (x0 == 45) = false) (h4 : (x0 == 95) = false) (h5 : (x0 == 47) = false) : P_K1q_b0 p0 (E_K1q_b0 p0 i0) (.k1) := by
  exact ⟨(envF (Z_K1q_b0_39 p0 i0 x0)), (zoF (ZO_K1q_b0_39 p0 i0 x0)), tells_outVI VOK.nil (x := (.ret, S_K1q_b0_1 p0 (envF (Z_K1q_b0_39 p0 i0 x0)) (zoF (ZO_K1q_b0_39 p0 i0 x0)))) [hB 0 hc0, hP 4 (six_ok p0 i0 x0 hx0), hB 2 h0, hB 6 h1, hB 7 h2, hB 7 h3, hB 3 h4, hB 3 h5] [] (by kernel_rfl)⟩
theorem lt_K1q_b0 (p0 : ByteArray) (H : H_K1q_b0 p0) : ∀ (r0 : List Int) (i0 : Nat), List.drop i0 (letters p0) = r0 → P_K1q_b0 p0 (E_K1q_b0 p0 i0) (l_K1q_b0 p0 r0 i0)
  | [], i0, hd => by
    have hc0 : (decide ((i0 : Int) < (ByteArray.size p0 : Int))) = false := by have hL := lettersLen p0; have := drop_end hd; simp; omega
    rw [l_K1q_b0]
    exact x_K1q_b0_0 p0 H i0 hc0
  | x0 :: r0, i0, hd => by
    obtain ⟨hx0, hi0, hd'⟩ := drop_get hd
    have hc0 : (decide ((i0 : Int) < (ByteArray.size p0 : Int))) = true := by have hL := lettersLen p0; simp; omega
    rw [l_K1q_b0]
    cases h0 : (decide (97 ≤ x0)) with
    | true =>
     cases h1 : (decide (x0 ≤ 122)) with
     | true =>
      exact P_K1q_b0_mono p0 (fun r hr => n_K1q_b0_1 p0 H x0 i0 hx0 hi0 hc0 h0 h1 hr) _ (lt_K1q_b0 p0 H r0 (i0 + 1) hd')
     | false =>
      cases h2 : (decide (65 ≤ x0)) with
      | true =>
       cases h3 : (decide (x0 ≤ 90)) with
       | true =>
        exact P_K1q_b0_mono p0 (fun r hr => n_K1q_b0_2 p0 H x0 i0 hx0 hi0 hc0 h0 h1 h2 h3 hr) _ (lt_K1q_b0 p0 H r0 (i0 + 1) hd')
       | false =>
        cases h4 : (decide (48 ≤ x0)) with
        | true =>
         cases h5 : (decide (x0 ≤ 57)) with
         | true =>
          exact P_K1q_b0_mono p0 (fun r hr => n_K1q_b0_3 p0 H x0 i0 hx0 hi0 hc0 h0 h1 h2 h3 h4 h5 hr) _ (lt_K1q_b0 p0 H r0 (i0 + 1) hd')
         | false =>
          cases h6 : (x0 == 45) with
          | true =>
           exact P_K1q_b0_mono p0 (fun r hr => n_K1q_b0_4 p0 H x0 i0 hx0 hi0 hc0 h0 h1 h2 h3 h4 h5 h6 hr) _ (lt_K1q_b0 p0 H r0 (i0 + 1) hd')
          | false =>
           cases h7 : (x0 == 95) with
           | true =>
            exact P_K1q_b0_mono p0 (fun r hr => n_K1q_b0_5 p0 H x0 i0 hx0 hi0 hc0 h0 h1 h2 h3 h4 h5 h6 h7 hr) _ (lt_K1q_b0 p0 H r0 (i0 + 1) hd')
           | false =>
            cases h8 : (x0 == 47) with
            | true =>
             exact P_K1q_b0_mono p0 (fun r hr => n_K1q_b0_6 p0 H x0 i0 hx0 hi0 hc0 h0 h1 h2 h3 h4 h5 h6 h7 h8 hr) _ (lt_K1q_b0 p0 H r0 (i0 + 1) hd')
            | false =>
             exact x_K1q_b0_7 p0 H x0 i0 hx0 hi0 hc0 h0 h1 h2 h3 h4 h5 h6 h7 h8
        | false =>
         cases h5 : (x0 == 45) with
         | true =>
          exact P_K1q_b0_mono p0 (fun r hr => n_K1q_b0_8 p0 H x0 i0 hx0 hi0 hc0 h0 h1 h2 h3 h4 h5 hr) _ (lt_K1q_b0 p0 H r0 (i0 + 1) hd')
         | false =>
          cases h6 : (x0 == 95) with
          | true =>
           exact P_K1q_b0_mono p0 (fun r hr => n_K1q_b0_9 p0 H x0 i0 hx0 hi0 hc0 h0 h1 h2 h3 h4 h5 h6 hr) _ (lt_K1q_b0 p0 H r0 (i0 + 1) hd')
          | false =>
           cases h7 : (x0 == 47) with
           | true =>
            exact P_K1q_b0_mono p0 (fun r hr => n_K1q_b0_10 p0 H x0 i0 hx0 hi0 hc0 h0 h1 h2 h3 h4 h5 h6 h7 hr) _ (lt_K1q_b0 p0 H r0 (i0 + 1) hd')
           | false =>
            exact x_K1q_b0_11 p0 H x0 i0 hx0 hi0 hc0 h0 h1 h2 h3 h4 h5 h6 h7
      | false =>
       cases h3 : (decide (48 ≤ x0)) with
       | true =>
        cases h4 : (decide (x0 ≤ 57)) with
        | true =>
         exact P_K1q_b0_mono p0 (fun r hr => n_K1q_b0_12 p0 H x0 i0 hx0 hi0 hc0 h0 h1 h2 h3 h4 hr) _ (lt_K1q_b0 p0 H r0 (i0 + 1) hd')
        | false =>
         cases h5 : (x0 == 45) with
         | true =>
          exact P_K1q_b0_mono p0 (fun r hr => n_K1q_b0_13 p0 H x0 i0 hx0 hi0 hc0 h0 h1 h2 h3 h4 h5 hr) _ (lt_K1q_b0 p0 H r0 (i0 + 1) hd')
         | false =>
          cases h6 : (x0 == 95) with
          | true =>
           exact P_K1q_b0_mono p0 (fun r hr => n_K1q_b0_14 p0 H x0 i0 hx0 hi0 hc0 h0 h1 h2 h3 h4 h5 h6 hr) _ (lt_K1q_b0 p0 H r0 (i0 + 1) hd')
          | false =>
           cases h7 : (x0 == 47) with
           | true =>
            exact P_K1q_b0_mono p0 (fun r hr => n_K1q_b0_15 p0 H x0 i0 hx0 hi0 hc0 h0 h1 h2 h3 h4 h5 h6 h7 hr) _ (lt_K1q_b0 p0 H r0 (i0 + 1) hd')
           | false =>
            exact x_K1q_b0_16 p0 H x0 i0 hx0 hi0 hc0 h0 h1 h2 h3 h4 h5 h6 h7
       | false =>
        cases h4 : (x0 == 45) with
        | true =>
         exact P_K1q_b0_mono p0 (fun r hr => n_K1q_b0_17 p0 H x0 i0 hx0 hi0 hc0 h0 h1 h2 h3 h4 hr) _ (lt_K1q_b0 p0 H r0 (i0 + 1) hd')
        | false =>
         cases h5 : (x0 == 95) with
         | true =>
          exact P_K1q_b0_mono p0 (fun r hr => n_K1q_b0_18 p0 H x0 i0 hx0 hi0 hc0 h0 h1 h2 h3 h4 h5 hr) _ (lt_K1q_b0 p0 H r0 (i0 + 1) hd')
         | false =>
          cases h6 : (x0 == 47) with
          | true =>
           exact P_K1q_b0_mono p0 (fun r hr => n_K1q_b0_19 p0 H x0 i0 hx0 hi0 hc0 h0 h1 h2 h3 h4 h5 h6 hr) _ (lt_K1q_b0 p0 H r0 (i0 + 1) hd')
          | false =>
           exact x_K1q_b0_20 p0 H x0 i0 hx0 hi0 hc0 h0 h1 h2 h3 h4 h5 h6
    | false =>
     cases h1 : (decide (65 ≤ x0)) with
     | true =>
      cases h2 : (decide (x0 ≤ 90)) with
      | true =>
       exact P_K1q_b0_mono p0 (fun r hr => n_K1q_b0_21 p0 H x0 i0 hx0 hi0 hc0 h0 h1 h2 hr) _ (lt_K1q_b0 p0 H r0 (i0 + 1) hd')
      | false =>
       cases h3 : (decide (48 ≤ x0)) with
       | true =>
        cases h4 : (decide (x0 ≤ 57)) with
        | true =>
         exact P_K1q_b0_mono p0 (fun r hr => n_K1q_b0_22 p0 H x0 i0 hx0 hi0 hc0 h0 h1 h2 h3 h4 hr) _ (lt_K1q_b0 p0 H r0 (i0 + 1) hd')
        | false =>
         cases h5 : (x0 == 45) with
         | true =>
          exact P_K1q_b0_mono p0 (fun r hr => n_K1q_b0_23 p0 H x0 i0 hx0 hi0 hc0 h0 h1 h2 h3 h4 h5 hr) _ (lt_K1q_b0 p0 H r0 (i0 + 1) hd')
         | false =>
          cases h6 : (x0 == 95) with
          | true =>
           exact P_K1q_b0_mono p0 (fun r hr => n_K1q_b0_24 p0 H x0 i0 hx0 hi0 hc0 h0 h1 h2 h3 h4 h5 h6 hr) _ (lt_K1q_b0 p0 H r0 (i0 + 1) hd')
          | false =>
           cases h7 : (x0 == 47) with
           | true =>
            exact P_K1q_b0_mono p0 (fun r hr => n_K1q_b0_25 p0 H x0 i0 hx0 hi0 hc0 h0 h1 h2 h3 h4 h5 h6 h7 hr) _ (lt_K1q_b0 p0 H r0 (i0 + 1) hd')
           | false =>
            exact x_K1q_b0_26 p0 H x0 i0 hx0 hi0 hc0 h0 h1 h2 h3 h4 h5 h6 h7
       | false =>
        cases h4 : (x0 == 45) with
        | true =>
         exact P_K1q_b0_mono p0 (fun r hr => n_K1q_b0_27 p0 H x0 i0 hx0 hi0 hc0 h0 h1 h2 h3 h4 hr) _ (lt_K1q_b0 p0 H r0 (i0 + 1) hd')
        | false =>
         cases h5 : (x0 == 95) with
         | true =>
          exact P_K1q_b0_mono p0 (fun r hr => n_K1q_b0_28 p0 H x0 i0 hx0 hi0 hc0 h0 h1 h2 h3 h4 h5 hr) _ (lt_K1q_b0 p0 H r0 (i0 + 1) hd')
         | false =>
          cases h6 : (x0 == 47) with
          | true =>
           exact P_K1q_b0_mono p0 (fun r hr => n_K1q_b0_29 p0 H x0 i0 hx0 hi0 hc0 h0 h1 h2 h3 h4 h5 h6 hr) _ (lt_K1q_b0 p0 H r0 (i0 + 1) hd')
          | false =>
           exact x_K1q_b0_30 p0 H x0 i0 hx0 hi0 hc0 h0 h1 h2 h3 h4 h5 h6
     | false =>
      cases h2 : (decide (48 ≤ x0)) with
      | true =>
       cases h3 : (decide (x0 ≤ 57)) with
       | true =>
        exact P_K1q_b0_mono p0 (fun r hr => n_K1q_b0_31 p0 H x0 i0 hx0 hi0 hc0 h0 h1 h2 h3 hr) _ (lt_K1q_b0 p0 H r0 (i0 + 1) hd')
       | false =>
        cases h4 : (x0 == 45) with
        | true =>
         exact P_K1q_b0_mono p0 (fun r hr => n_K1q_b0_32 p0 H x0 i0 hx0 hi0 hc0 h0 h1 h2 h3 h4 hr) _ (lt_K1q_b0 p0 H r0 (i0 + 1) hd')
        | false =>
         cases h5 : (x0 == 95) with
         | true =>
          exact P_K1q_b0_mono p0 (fun r hr => n_K1q_b0_33 p0 H x0 i0 hx0 hi0 hc0 h0 h1 h2 h3 h4 h5 hr) _ (lt_K1q_b0 p0 H r0 (i0 + 1) hd')
         | false =>
          cases h6 : (x0 == 47) with
          | true =>
           exact P_K1q_b0_mono p0 (fun r hr => n_K1q_b0_34 p0 H x0 i0 hx0 hi0 hc0 h0 h1 h2 h3 h4 h5 h6 hr) _ (lt_K1q_b0 p0 H r0 (i0 + 1) hd')
          | false =>
           exact x_K1q_b0_35 p0 H x0 i0 hx0 hi0 hc0 h0 h1 h2 h3 h4 h5 h6
      | false =>
       cases h3 : (x0 == 45) with
       | true =>
        exact P_K1q_b0_mono p0 (fun r hr => n_K1q_b0_36 p0 H x0 i0 hx0 hi0 hc0 h0 h1 h2 h3 hr) _ (lt_K1q_b0 p0 H r0 (i0 + 1) hd')
       | false =>
        cases h4 : (x0 == 95) with
        | true =>
         exact P_K1q_b0_mono p0 (fun r hr => n_K1q_b0_37 p0 H x0 i0 hx0 hi0 hc0 h0 h1 h2 h3 h4 hr) _ (lt_K1q_b0 p0 H r0 (i0 + 1) hd')
        | false =>
         cases h5 : (x0 == 47) with
         | true =>
          exact P_K1q_b0_mono p0 (fun r hr => n_K1q_b0_38 p0 H x0 i0 hx0 hi0 hc0 h0 h1 h2 h3 h4 h5 hr) _ (lt_K1q_b0 p0 H r0 (i0 + 1) hd')
         | false =>
          exact x_K1q_b0_39 p0 H x0 i0 hx0 hi0 hc0 h0 h1 h2 h3 h4 h5
def s_K1q (p0 : ByteArray) : Bool :=
  (match (l_K1q_b0 p0 (letters p0) 0) with
  | .k0 => bif (decide (1 ≤ (ByteArray.size p0 : Int))) then
      (decide ((ByteArray.size p0 : Int) ≤ 40))
    else
      false
  | .k1 => false)
def c_K1q (p0 : ByteArray) : En := .call 58 [.str p0] []
def a_K1q (p0 : ByteArray) : Rs := .ret (.bool (s_K1q p0)) []
def H_K1q (p0 : ByteArray) : Prop := (H_K1q_b0 p0) ∧ True
theorem t_K1q (p0 : ByteArray) (H : H_K1q p0) : Tells G (c_K1q p0) (a_K1q p0) := by
  unfold a_K1q s_K1q
  have hl0 := lt_K1q_b0 p0 (H.1) (letters p0) 0 (by simp)
  cases hr0 : (l_K1q_b0 p0 (letters p0) 0) with
  | k0 =>
    rw [hr0] at hl0
    obtain ⟨z0, zo0, hl0⟩ := hl0
    try dsimp only
    cases h0 : (decide (1 ≤ (ByteArray.size p0 : Int))) with
    | true =>
     exact tells_VI (fn := Ir.K1q) rfl VOK.nil [hB 6 h0] [aN hl0] (by kernel_rfl)
    | false =>
     exact tells_VI (fn := Ir.K1q) rfl VOK.nil [hB 6 h0] [aN hl0] (by kernel_rfl)
  | k1 =>
    rw [hr0] at hl0
    obtain ⟨z0, zo0, hl0⟩ := hl0
    exact tells_VI (fn := Ir.K1q) rfl VOK.nil [] [aN hl0] (by kernel_rfl)
/-- cmp.isNaN[int] -/
def s_K2 (p0 : Int) : Bool :=
  (!(p0 == p0))
/-- cmp.Compare[int] -/
def s_K0 (p0 : Int) (p1 : Int) : Int :=
  bif (s_K2 p0) then
    bif (s_K2 p1) then
      0
    else
      (-1)
  else
    bif (s_K2 p1) then
      1
    else
      bif (decide (p0 < p1)) then
        (-1)
      else
        bif (decide (p1 < p0)) then
          1
        else
          0
/-- strings.Compare -/
def s_K18 (p0 : ByteArray) (p1 : ByteArray) : Int :=
  (sCmp p0 p1)
def c_K18 (p0 : ByteArray) (p1 : ByteArray) : En := .call 43 [.str p0, .str p1] []
def a_K18 (p0 : ByteArray) (p1 : ByteArray) : Rs := .ret (.int .i64 (s_K18 p0 p1)) []
theorem t_K18 (p0 : ByteArray) (p1 : ByteArray) : Tells G (c_K18 p0 p1) (a_K18 p0 p1) := by
  unfold a_K18 s_K18
  exact tells_VI (fn := Ir.K18) rfl VOK.nil [] [aN (t_cmpstr p0 p1)] (by kernel_rfl)
inductive R_K1_b0 where
  | k0 (q0 : Int)
  | k1 (q0 : Int)
def l_K1_b0 (p0 : List Int) : List Int → Nat → Int → R_K1_b0
  | [], _i0, v0_1 =>
    (.k0 v0_1)
  | x0 :: r0, i0, v0_1 =>
    bif (x0 == v0_1) then
      l_K1_b0 p0 r0 (i0 + 1) v0_1
    else
      (.k1 x0)
/-- cmp.Or[int] -/
def s_K1 (p0 : List Int) : Int :=
  (match (l_K1_b0 p0 p0 0 0) with
  | .k0 y0_0 => y0_0
  | .k1 y0_0 => y0_0)
end Go.Proofs.Ytedohmdgbilicaa
end

