/-
  Runs along a trace, over views: operations, regions, code, calls, loops' rounds.
-/
import Derived.Test.YtedohmdgbilicaaPvV
namespace Go.Pv

def Seen (o : Option Ob) (rows : List (List PV)) : Prop := ∃ ob, o = some ob ∧ ViewOK ob.sz ob.cells rows
theorem seenV {ob : Ob} {rows : List (List PV)} (h : ViewOK ob.sz ob.cells rows) : Seen (some ob) rows := ⟨ob, rfl, h⟩
def putV (vw : Views) (cut : List Nat) (new : Views) : Views := new ++ vw.filter fun x => !(has cut x.1)
theorem look_filter {vw : Views} {cut : List Nat} {id : Nat} {rows : List (List PV)} (h : look (vw.filter fun x => !(has cut x.1)) id = some rows) : look vw id = some rows ∧ has cut id = false := by
  induction vw with
  | nil => cases h
  | cons x r ih =>
    obtain ⟨k, rs⟩ := x
    simp only [List.filter_cons] at h
    cases hc : has cut k with
    | true =>
      rw [hc] at h
      simp only [Bool.not_true, Bool.false_eq_true, if_false] at h
      obtain ⟨h1, h2⟩ := ih h
      refine ⟨?_, h2⟩
      simp only [look]
      cases c : Nat.beq k id with
      | true =>
        have := Nat.eq_of_beq_eq_true c
        subst this
        rw [hc] at h2
        cases h2
      | false => exact h1
    | false =>
      rw [hc] at h
      simp only [Bool.not_false, if_true, look] at h ⊢
      cases c : Nat.beq k id with
      | true =>
        rw [c] at h
        have := Nat.eq_of_beq_eq_true c
        subst this
        exact ⟨h, hc⟩
      | false =>
        rw [c] at h
        exact ih h
theorem has_false {l : List Nat} {id : Nat} (h : has l id = false) : id ∉ l := by
  induction l with
  | nil => exact List.not_mem_nil
  | cons k r ih =>
    simp only [has] at h
    cases c : Nat.beq k id with
    | true => rw [c] at h; cases h
    | false =>
      rw [c] at h
      simp only [cond_false] at h
      intro hm
      rcases List.mem_cons.1 hm with rfl | hm
      · simp at c
      · exact ih h hm
theorem putV_look {vw new : Views} {cut : List Nat} {id : Nat} {rows : List (List PV)} (h : look (putV vw cut new) id = some rows) : look new id = some rows ∨ (look vw id = some rows ∧ id ∉ cut) := by
  unfold putV at h
  rw [look_app] at h
  cases hn : look new id with
  | some r => rw [hn] at h; exact .inl h
  | none =>
    rw [hn] at h
    obtain ⟨h1, h2⟩ := look_filter h
    exact .inr ⟨h1, has_false h2⟩
theorem look_in {α : Type} {l : List (Nat × α)} {id : Nat} {x : α} (h : look l id = some x) : (id, x) ∈ l := by
  induction l with
  | nil => cases h
  | cons y r ih =>
    obtain ⟨k, z⟩ := y
    simp only [look] at h
    cases c : Nat.beq k id with
    | true =>
      rw [c] at h
      have := Nat.eq_of_beq_eq_true c
      subst this
      simp only [cond_true, Option.some.injEq] at h
      subst h
      exact List.mem_cons_self
    | false =>
      rw [c] at h
      exact List.mem_cons_of_mem _ (ih h)

/-- an operation keeps the views: those that end are told, those that begin are seen -/
def Turned (H : Nat → Option Ob) (vw : Views) (e : EV) : Prop := VOK (upH H e.eff.hw) (putV vw e.cut e.new)

theorem upH_once {ws : List (Nat × Option Ob)} {H : Nat → Option Ob} {id : Nat} {o : Option Ob} (hn : (ws.map (·.1)).Nodup) (h : (id, o) ∈ ws) : upH H ws id = o := by
  induction ws generalizing H with
  | nil => cases h
  | cons x r ih =>
    obtain ⟨k, z⟩ := x
    simp only [List.map_cons, List.nodup_cons] at hn
    rw [upH]
    rcases List.mem_cons.1 h with e | h
    · injection e with e1 e2
      subst e1 e2
      rw [upH_not (fun y hy e => hn.1 (by rw [← e]; exact List.mem_map_of_mem hy))]
      simp
    · exact ih hn.2 h
def nodupB : List Nat → Bool
  | [] => true
  | k :: r => !(has r k) && nodupB r
theorem nodupB_ok : ∀ {l : List Nat}, nodupB l = true → l.Nodup
  | [], _ => List.nodup_nil
  | k :: r, h => by
    simp only [nodupB, Bool.and_eq_true, Bool.not_eq_true'] at h
    exact List.nodup_cons.2 ⟨has_false h.1, nodupB_ok h.2⟩
theorem shut_same {H : Nat → Option Ob} : ∀ (l : List Nat) (cl : List (Nat × Option Ob)), shut H l = some cl → ∀ id o, (id, o) ∈ cl → ∃ ob ob', H id = some ob ∧ o = some ob' ∧ ob'.sz = ob.sz ∧ ob'.cells = ob.cells
  | [], cl, h, id, o, hm => by
    simp only [shut, Option.some.injEq] at h
    subst h
    cases hm
  | k :: r, cl, h, id, o, hm => by
    simp only [shut] at h
    obtain ⟨ob, hob, h⟩ := obind_some h
    obtain ⟨m, hm', h⟩ := obind_some h
    simp only [Option.some.injEq] at h
    subst h
    rcases List.mem_cons.1 hm with e | hm
    · injection e with e1 e2
      subst e1 e2
      exact ⟨ob, _, hob, rfl, rfl, rfl⟩
    · exact shut_same r m hm' id o hm

def icallW (H : Nat → Option Ob) (vw : Views) (fr : Nat) (byRef : Bool) (f : Nat) (args : List PV) (as : List Ans) : Option EV :=
  (icallV H vw fr byRef f args as).bind fun e => bif nodupB (e.eff.hw.map (·.1)) then some e else none

theorem icallV_sound {G : Nat → Option Fun} {H : Nat → Option Ob} {vw : Views} (hv : VOK H vw) {fr : Nat} {byRef : Bool} {f : Nat} {args : List PV} {as : List Ans} {e : EV} (h : icallW H vw fr byRef f args as = some e) (hm : Met e.owed) (hq : Told G e.asked) : icall (lim G) H fr byRef f args = some e.eff ∧ Turned H vw e := by
  unfold icallW at h
  obtain ⟨e', h0, h'⟩ := obind_some h
  clear h
  cases hnd : nodupB (e'.eff.hw.map (·.1)) with
  | false => rw [hnd] at h'; cases h'
  | true =>
  rw [hnd] at h'
  simp only [cond_true, Option.some.injEq] at h'
  subst h'
  have hnd := nodupB_ok hnd
  unfold icallV at h0
  unfold icall
  obtain ⟨y, hy, h⟩ := obind_some h0
  clear h0
  obtain ⟨z, hz, h⟩ := obind_some h
  simp only at h
  cases hd : disj (y.1.2.2 ++ z.1.2.2) z.1.2.1 with
  | false => rw [hd] at h; cases h
  | true =>
    rw [hd] at h
    simp only [cond_true] at h
    cases as with
    | nil => cases h
    | cons a as' =>
      obtain ⟨r, avw⟩ := a
      cases r with
      | st _ _ => cases h
      | ret v hh =>
        simp only at h
        cases hb : (Nat.ble z.1.2.1.length hh.length && Nat.ble (hh.length - z.1.2.1.length) 64) with
        | false => rw [hb] at h; cases h
        | true =>
          rw [hb] at h
          simp only [cond_true] at h
          obtain ⟨v', hv', h⟩ := obind_some h
          obtain ⟨ws, hws, h⟩ := obind_some h
          have key : ∀ (hy' : Met y.2) (hz' : Met z.2) (hw' : Met ws.2.1) (ht : Tells G (.call f y.1.1 z.1.1) (.ret v hh)) (E : Eff),
              (bif flat 8 v && hh.all (fun ob => ob.cells.all (flat 8)) then some ⟨v', ws.1, z.1.2.1 ++ (y.1.2.2 ++ z.1.2.2)⟩ else (shut H (y.1.2.2 ++ z.1.2.2)).bind fun cl => some ⟨v', ws.1 ++ cl, z.1.2.1 ++ (y.1.2.2 ++ z.1.2.2)⟩) = some E →
              ((passL (pass H byRef 8) args []).bind fun y => (passObs H false false 16 0 y.2.1).bind fun z =>
                let ids := z.2.1
                let lent := y.2.2 ++ z.2.2
                bif disj lent ids then
                  (lim G (.call f y.1 z.1)).bind fun r =>
                    match r with
                    | .ret v h =>
                      bif Nat.ble ids.length h.length && Nat.ble (h.length - ids.length) 64 then
                        (back (ren ids fr) 8 v).bind fun v' => (backObs (ren ids fr) 0 h).bind fun ws =>
                          bif flat 8 v && h.all (fun ob => ob.cells.all (flat 8)) then some ⟨v', ws, ids ++ lent⟩
                          else (shut H lent).bind fun cl => some ⟨v', ws ++ cl, ids ++ lent⟩
                      else none
                    | _ => none
                else none) = some E := by
            intro hy' hz' hw' ht E hE
            rw [passLV_sound (passV_sound hv 8) _ _ y hy hy', Option.bind_some, passObsV_sound hv 16 _ _ z hz hz', Option.bind_some]
            simp only
            rw [hd]
            simp only [cond_true]
            rw [lim_of ht, Option.bind_some]
            simp only
            rw [hb]
            simp only [cond_true]
            rw [hv', Option.bind_some, backObsV_sound hh 0 ws hws hw', Option.bind_some]
            exact hE
          have turn : ∀ (cl : List (Nat × Option Ob)) (hcl : ∀ id o, (id, o) ∈ cl → ∃ ob ob', H id = some ob ∧ o = some ob' ∧ ob'.sz = ob.sz ∧ ob'.cells = ob.cells) (hn : ((ws.1 ++ cl).map (·.1)).Nodup) (hw' : Met ws.2.1) , VOK (upH H (ws.1 ++ cl)) (putV vw (ws.1.map (·.1)) ws.2.2) := by
            intro cl hcl hn hw' id rows hl
            rcases putV_look hl with hl | ⟨hl, hc⟩
            · obtain ⟨ob, hob, hok⟩ := backObsV_views hh 0 ws hws hw' id rows (look_in hl)
              exact ⟨ob, upH_once hn (List.mem_append_left _ hob), hok⟩
            · obtain ⟨ob, hob, hok⟩ := hv id rows hl
              by_cases hx : ∃ o, (id, o) ∈ cl
              · obtain ⟨o, ho⟩ := hx
                obtain ⟨ob1, ob', h1, rfl, h2, h3⟩ := hcl id o ho
                rw [hob] at h1
                injection h1 with h1
                subst h1
                refine ⟨ob', upH_once hn (List.mem_append_right _ ho), ?_⟩
                rw [h2, h3]
                exact hok
              · refine ⟨ob, ?_, hok⟩
                rw [upH_not (fun y hy e => ?_)]
                · exact hob
                · rcases List.mem_append.1 hy with hy | hy
                  · exact hc (by rw [← e]; exact List.mem_map_of_mem hy)
                  · exact hx ⟨y.2, by rw [← e]; exact hy⟩
          cases hlent : y.1.2.2 ++ z.1.2.2 with
          | nil =>
            rw [hlent] at h
            simp only [Option.some.injEq] at h
            subst h
            simp only at hm hq hnd
            refine ⟨key hm.left hm.right.left hm.right.right (hq _ List.mem_cons_self) _ ?_, ?_⟩
            · rw [hlent]
              cases (flat 8 v && hh.all (fun ob => ob.cells.all (flat 8))) <;> simp [shut]
            · have := turn [] (fun _ _ h => by cases h) (by simpa using hnd) hm.right.right
              rw [List.append_nil] at this
              exact this
          | cons l0 lr =>
            rw [hlent] at h
            simp only at h
            cases hf : (flat 8 v && hh.all (fun ob => ob.cells.all (flat 8))) with
            | true =>
              rw [hf] at h
              simp only [cond_true, Option.some.injEq] at h
              subst h
              simp only at hm hq hnd
              refine ⟨key hm.left hm.right.left hm.right.right (hq _ List.mem_cons_self) _ ?_, ?_⟩
              · rw [hlent, hf]
                rfl
              · have := turn [] (fun _ _ h => by cases h) (by simpa using hnd) hm.right.right
                rw [List.append_nil] at this
                exact this
            | false =>
              rw [hf] at h
              simp only [cond_false] at h
              obtain ⟨cl, hcl, h⟩ := obind_some h
              simp only [Option.some.injEq] at h
              subst h
              simp only at hm hq hnd
              refine ⟨key hm.left hm.right.left hm.right.right (hq _ List.mem_cons_self) _ ?_, ?_⟩
              · rw [hlent, hf]
                simp only [cond_false]
                rw [hcl, Option.bind_some]
              · exact turn cl (shut_same _ _ hcl) hnd hm.right.right

def mute : Orc := fun _ => none
theorem iop_mute {X : Orc} {e : Nat → PV} {H : Nat → Option Ob} {fr : Nat} {o : IOp} {x : Eff} (h : iop mute e H fr o = some x) : iop X e H fr o = some x := by
  cases o with
  | call b f xs =>
    simp only [iop] at h
    obtain ⟨t, _, h⟩ := obind_some h
    unfold icall at h
    obtain ⟨y, _, h⟩ := obind_some h
    obtain ⟨z, _, h⟩ := obind_some h
    simp only at h
    cases hd : disj (y.2.2 ++ z.2.2) z.2.1 with
    | false => rw [hd] at h; cases h
    | true =>
      rw [hd] at h
      simp only [cond_true] at h
      obtain ⟨_, h, _⟩ := obind_some h
      cases h
  | _ => exact h
theorem istep_mute {X : Orc} {e : Nat → PV} {H : Nat → Option Ob} {fr : Nat} {o : IOper} {x : Eff} (h : istep mute e H fr o = some x) : istep X e H fr o = some x := by
  unfold istep at h ⊢
  obtain ⟨w, hw, h⟩ := obind_some h
  rw [hw, Option.bind_some]
  cases w with
  | true => exact iop_mute h
  | false => exact h

def iopV (e : Nat → PV) (H : Nat → Option Ob) (vw : Views) (fr : Nat) (as : List Ans) : IOp → Option EV
  | .call byRef f args => (target (f.ev e) (evs e args)).bind fun t => icallW H vw fr byRef t.1 t.2 as
  | o => (iop mute e H fr o).bind fun x => some ⟨x, x.hw.map (·.1), [], as, [], []⟩
def istepV (e : Nat → PV) (H : Nat → Option Ob) (vw : Views) (fr : Nat) (as : List Ans) (o : IOper) : Option EV :=
  (o.wanted e).bind fun w => bif w then iopV e H vw fr as o.op else some ⟨⟨.tup [], [], []⟩, [], [], as, [], []⟩
theorem turned_plain {H : Nat → Option Ob} {vw : Views} (hv : VOK H vw) {x : Eff} {as : List Ans} : Turned H vw ⟨x, x.hw.map (·.1), [], as, [], []⟩ := by
  intro id rows hl
  rcases putV_look hl with hl | ⟨hl, hc⟩
  · cases hl
  · obtain ⟨ob, hob, hok⟩ := hv id rows hl
    refine ⟨ob, ?_, hok⟩
    rw [upH_not (fun y hy e => hc (by rw [← e]; exact List.mem_map_of_mem hy))]
    exact hob
theorem istepV_sound {G : Nat → Option Fun} {e : Nat → PV} {H : Nat → Option Ob} {vw : Views} (hv : VOK H vw) {fr : Nat} {as : List Ans} {o : IOper} {y : EV} (h : istepV e H vw fr as o = some y) (hm : Met y.owed) (hq : Told G y.asked) : istep (lim G) e H fr o = some y.eff ∧ Turned H vw y := by
  unfold istepV at h
  obtain ⟨w, hw, h⟩ := obind_some h
  unfold istep
  rw [hw, Option.bind_some]
  cases w with
  | false =>
    simp only [cond_false, Option.some.injEq] at h
    subst h
    exact ⟨rfl, turned_plain hv (x := ⟨.tup [], [], []⟩)⟩
  | true =>
    simp only [cond_true] at h ⊢
    have gen : ((iop mute e H fr o.op).bind fun x => some (⟨x, x.hw.map (·.1), [], as, [], []⟩ : EV)) = some y → iop (lim G) e H fr o.op = some y.eff ∧ Turned H vw y := by
      intro h
      obtain ⟨x, hx, h⟩ := obind_some h
      simp only [Option.some.injEq] at h
      subst h
      exact ⟨iop_mute hx, turned_plain hv⟩
    cases ho : o.op with
    | call b f xs =>
      rw [ho] at h
      simp only [iopV] at h
      obtain ⟨t, ht, h⟩ := obind_some h
      simp only [iop]
      rw [ht, Option.bind_some]
      exact icallV_sound hv h hm hq
    | _ =>
      rw [ho] at h gen
      exact gen h

/-! ### regions -/
/-- after so many operations that are carried out, one whose effect is handed in, with the views that begin there -/
abbrev HintsV := List (Nat × (Eff × Views))
structure TV where
  env : List PV
  heap : List (Nat × Ob)
  vw : Views
  effs : List Eff
  hs : HintsV
  as : List Ans
  owed : List Prop
  asked : Asked
def nobody : Nat → Option Ob := fun _ => none
def iregV (nx : Nat) : Nat → List IOper → HintsV → List Ans → List PV → List (Nat × Ob) → Views → Option TV
  | _, [], hs, as, env, h, vw => some ⟨env, h, vw, [], hs, as, [], []⟩
  | i, o :: r, hs, as, env, h, vw =>
    match hs with
    | [] => (istepV (envF env) (look h) vw (nx + 64 * i) as o).bind fun x => (iregV nx (i + 1) r [] x.as (put env o.dst x.eff.v) (hput h x.eff.hw) (putV vw x.cut x.new)).bind fun y => some ⟨y.env, y.heap, y.vw, x.eff :: y.effs, y.hs, y.as, x.owed ++ y.owed, x.asked ++ y.asked⟩
    | (k + 1, z) :: hs' => (istepV (envF env) (look h) vw (nx + 64 * i) as o).bind fun x => (iregV nx (i + 1) r ((k, z) :: hs') x.as (put env o.dst x.eff.v) (hput h x.eff.hw) (putV vw x.cut x.new)).bind fun y => some ⟨y.env, y.heap, y.vw, x.eff :: y.effs, y.hs, y.as, x.owed ++ y.owed, x.asked ++ y.asked⟩
    | (0, x) :: hs' => (iregV nx (i + 1) r hs' as (put env o.dst x.1.v) (hput h x.1.hw) (putV vw (x.1.hw.map (·.1)) x.2)).bind fun y => some ⟨y.env, y.heap, y.vw, x.1 :: y.effs, y.hs, y.as, (istep mute (envF env) (look h) (nx + 64 * i) o = some x.1) :: ((x.2.map fun p => Seen (upH nobody x.1.hw p.1) p.2) ++ y.owed), y.asked⟩

theorem VOK.turned {h : List (Nat × Ob)} {vw : Views} {y : EV} (ht : Turned (look h) vw y) : VOK (look (hput h y.eff.hw)) (putV vw y.cut y.new) := by
  rw [look_hput]
  exact ht
theorem upH_nobody {ws : List (Nat × Option Ob)} {H : Nat → Option Ob} {id : Nat} {ob : Ob} (h : upH nobody ws id = some ob) : upH H ws id = some ob := by
  by_cases c : ∃ x ∈ ws, x.1 = id
  · rw [upH_congr (H' := nobody) c]
    exact h
  · rw [upH_not (fun y hy e => c ⟨y, hy, e⟩)] at h
    cases h
theorem iregV_sound {G : Nat → Option Fun} {nx : Nat} : ∀ (ops : List IOper) (i : Nat) (hs : HintsV) (as : List Ans) (env : List PV) (h : List (Nat × Ob)) (vw : Views) (t : TV), iregV nx i ops hs as env h vw = some t → VOK (look h) vw → Met t.owed → Told G t.asked → iregion (lim G) nx i ops env h = some (t.env, t.heap, t.effs) ∧ VOK (look t.heap) t.vw
  | [], i, hs, as, env, h, vw, t, ht, hv, _, _ => by
    simp only [iregV, Option.some.injEq] at ht
    subst ht
    exact ⟨rfl, hv⟩
  | o :: r, i, hs, as, env, h, vw, t, ht, hv, hm, hq => by
    have go : ∀ (x : EV) (hs' : HintsV) (vw' : Views), istep (lim G) (envF env) (look h) (nx + 64 * i) o = some x.eff → VOK (look (hput h x.eff.hw)) vw' → ∀ (y : TV), iregV nx (i + 1) r hs' x.as (put env o.dst x.eff.v) (hput h x.eff.hw) vw' = some y → Met y.owed → Told G y.asked → y.env = t.env → y.heap = t.heap → y.vw = t.vw → x.eff :: y.effs = t.effs → iregion (lim G) nx i (o :: r) env h = some (t.env, t.heap, t.effs) ∧ VOK (look t.heap) t.vw := by
      intro x hs' vw' hx hvx y hy hmy hqy e1 e2 e3 e4
      obtain ⟨r1, r2⟩ := iregV_sound r (i + 1) hs' _ _ _ _ y hy hvx hmy hqy
      simp only [iregion]
      rw [hx, Option.bind_some, r1, Option.bind_some, ← e1, ← e2, ← e3, ← e4]
      exact ⟨rfl, r2⟩
    unfold iregV at ht
    split at ht
    · obtain ⟨x, hx, ht⟩ := obind_some ht
      obtain ⟨y, hy, ht⟩ := obind_some ht
      simp only [Option.some.injEq] at ht
      subst ht
      obtain ⟨s1, s2⟩ := istepV_sound hv hx hm.left hq.left
      exact go x _ _ s1 (VOK.turned s2) y hy hm.right hq.right rfl rfl rfl rfl
    · obtain ⟨x, hx, ht⟩ := obind_some ht
      obtain ⟨y, hy, ht⟩ := obind_some ht
      simp only [Option.some.injEq] at ht
      subst ht
      obtain ⟨s1, s2⟩ := istepV_sound hv hx hm.left hq.left
      exact go x _ _ s1 (VOK.turned s2) y hy hm.right hq.right rfl rfl rfl rfl
    · rename_i x hs'
      obtain ⟨y, hy, ht⟩ := obind_some ht
      simp only [Option.some.injEq] at ht
      subst ht
      have hx : istep (lim G) (envF env) (look h) (nx + 64 * i) o = some x.1 := istep_mute hm.head
      have hseen : Met (x.2.map fun p => Seen (upH nobody x.1.hw p.1) p.2) := hm.tail.left
      have hvx : VOK (look (hput h x.1.hw)) (putV vw (x.1.hw.map (·.1)) x.2) := by
        rw [look_hput]
        intro id rows hl
        rcases putV_look hl with hl | ⟨hl, hc⟩
        · obtain ⟨ob, hob, hok⟩ := hseen _ (List.mem_map_of_mem (f := fun p : Nat × List (List PV) => Seen (upH nobody x.1.hw p.1) p.2) (look_in hl))
          exact ⟨ob, upH_nobody hob, hok⟩
        · obtain ⟨ob, hob, hok⟩ := hv id rows hl
          refine ⟨ob, ?_, hok⟩
          rw [upH_not (fun y hy e => hc (by rw [← e]; exact List.mem_map_of_mem hy))]
          exact hob
      exact go ⟨x.1, x.1.hw.map (·.1), x.2, as, [], []⟩ hs' _ hx hvx y hy hm.tail.right hq rfl rfl rfl rfl

/-! ### code -/
structure CV where
  ex : Ex
  st : St
  vw : Views
  hs : HintsV
  as : List Ans
  owed : List Prop
  asked : Asked
def icodeV (m : Nat) : IR → HintsV → List Ans → Views → St → Option CV
  | .skip, hs, as, vw, s => some ⟨.normal, s, vw, hs, as, [], []⟩
  | .reg ops draw, hs, as, vw, s => (iregV s.nx 0 ops hs as s.env s.heap vw).bind fun y => bif !draw || calm (ops.zip y.effs) 0 (ops.zip y.effs) then some ⟨.normal, ⟨y.env, y.heap, s.nx + 64 * ops.length⟩, y.vw, y.hs, y.as, y.owed, y.asked⟩ else none
  | .seq a b, hs, as, vw, s => (icodeV m a hs as vw s).bind fun x => (match x.ex with | .normal => (icodeV m b x.hs x.as x.vw x.st).bind fun y => some ⟨y.ex, y.st, y.vw, y.hs, y.as, x.owed ++ y.owed, x.asked ++ y.asked⟩ | _ => some x)
  | .cond c a b, hs, as, vw, s => (match c.ev (envF s.env) with | .bool t => (bif t then icodeV m a hs as vw s else icodeV m b hs as vw s) | _ => none)
  | .block id b, hs, as, vw, s => (icodeV m b hs as vw s).bind fun x => (match x.ex with | .exit j => (bif Nat.beq j id then some ⟨.normal, x.st, x.vw, x.hs, x.as, x.owed, x.asked⟩ else some x) | _ => some x)
  | .loop live b, hs, as, vw, s => (gcV vw m live s).bind fun y => (match as with
    | [] => none
    | a :: as' => (match a.r with | .st e s' => some ⟨e, s', a.vw, hs, as', y.2 ++ (a.vw.map fun p => Seen (look s'.heap p.1) p.2), [(.loop m live b y.1.1 y.1.2, a.r)]⟩ | _ => none))
  | .exit id, hs, as, vw, s => some ⟨.exit id, s, vw, hs, as, [], []⟩
  | .ret, hs, as, vw, s => some ⟨.ret, s, vw, hs, as, [], []⟩

theorem icodeV_sound {G : Nat → Option Fun} {m : Nat} : ∀ (c : IR) (hs : HintsV) (as : List Ans) (vw : Views) (s : St) (t : CV), icodeV m c hs as vw s = some t → VOK (look s.heap) vw → Met t.owed → Told G t.asked → icode (lim G) m c s = some (t.ex, t.st) ∧ VOK (look t.st.heap) t.vw
  | .skip, hs, as, vw, s, t, ht, hv, _, _ => by
    simp only [icodeV, Option.some.injEq] at ht
    subst ht
    exact ⟨rfl, hv⟩
  | .reg ops draw, hs, as, vw, s, t, ht, hv, hm, hq => by
    simp only [icodeV] at ht
    obtain ⟨y, hy, ht⟩ := obind_some ht
    cases hc : (!draw || calm (ops.zip y.effs) 0 (ops.zip y.effs)) with
    | false => rw [hc] at ht; cases ht
    | true =>
      rw [hc] at ht
      simp only [cond_true, Option.some.injEq] at ht
      subst ht
      obtain ⟨r1, r2⟩ := iregV_sound ops 0 hs as s.env s.heap vw y hy hv hm hq
      have h1 : ireg (lim G) ops draw s = some ⟨y.env, y.heap, s.nx + 64 * ops.length⟩ := by
        unfold ireg
        rw [r1, Option.bind_some]
        simp only
        rw [hc]
        rfl
      simp only [icode]
      rw [h1]
      exact ⟨rfl, r2⟩
  | .seq a b, hs, as, vw, s, t, ht, hv, hm, hq => by
    simp only [icodeV] at ht
    obtain ⟨x, hx, ht⟩ := obind_some ht
    obtain ⟨ex, st, vw1, hs1, as1, ow1, ak1⟩ := x
    simp only [icode]
    cases ex with
    | normal =>
      simp only at ht
      obtain ⟨y, hy, ht⟩ := obind_some ht
      simp only [Option.some.injEq] at ht
      subst ht
      obtain ⟨r1, r2⟩ := icodeV_sound a hs as vw s _ hx hv hm.left hq.left
      rw [r1, Option.bind_some]
      exact icodeV_sound b _ _ _ _ y hy r2 hm.right hq.right
    | exit j =>
      simp only [Option.some.injEq] at ht
      subst ht
      obtain ⟨r1, r2⟩ := icodeV_sound a hs as vw s _ hx hv hm hq
      rw [r1, Option.bind_some]
      exact ⟨rfl, r2⟩
    | ret =>
      simp only [Option.some.injEq] at ht
      subst ht
      obtain ⟨r1, r2⟩ := icodeV_sound a hs as vw s _ hx hv hm hq
      rw [r1, Option.bind_some]
      exact ⟨rfl, r2⟩
  | .cond c a b, hs, as, vw, s, t, ht, hv, hm, hq => by
    simp only [icodeV] at ht
    simp only [icode]
    split at ht
    · rename_i q hq'
      rw [hq']
      simp only
      cases q with
      | true => exact icodeV_sound a hs as vw s t ht hv hm hq
      | false => exact icodeV_sound b hs as vw s t ht hv hm hq
    · cases ht
  | .block id b, hs, as, vw, s, t, ht, hv, hm, hq => by
    simp only [icodeV] at ht
    obtain ⟨x, hx, ht⟩ := obind_some ht
    obtain ⟨ex, st, vw1, hs1, as1, ow1, ak1⟩ := x
    simp only [icode]
    cases ex with
    | normal =>
      simp only [Option.some.injEq] at ht
      subst ht
      obtain ⟨r1, r2⟩ := icodeV_sound b hs as vw s _ hx hv hm hq
      rw [r1, Option.bind_some]
      exact ⟨rfl, r2⟩
    | ret =>
      simp only [Option.some.injEq] at ht
      subst ht
      obtain ⟨r1, r2⟩ := icodeV_sound b hs as vw s _ hx hv hm hq
      rw [r1, Option.bind_some]
      exact ⟨rfl, r2⟩
    | exit j =>
      simp only at ht
      cases hj : Nat.beq j id with
      | true =>
        rw [hj] at ht
        simp only [cond_true, Option.some.injEq] at ht
        subst ht
        obtain ⟨r1, r2⟩ := icodeV_sound b hs as vw s _ hx hv hm hq
        rw [r1, Option.bind_some]
        simp only
        rw [hj]
        exact ⟨rfl, r2⟩
      | false =>
        rw [hj] at ht
        simp only [cond_false, Option.some.injEq] at ht
        subst ht
        obtain ⟨r1, r2⟩ := icodeV_sound b hs as vw s _ hx hv hm hq
        rw [r1, Option.bind_some]
        simp only
        rw [hj]
        exact ⟨rfl, r2⟩
  | .loop live b, hs, as, vw, s, t, ht, hv, hm, hq => by
    simp only [icodeV] at ht
    obtain ⟨y, hy, ht⟩ := obind_some ht
    simp only [icode]
    cases as with
    | nil => cases ht
    | cons a as' =>
      obtain ⟨r, avw⟩ := a
      cases r with
      | ret _ _ => cases ht
      | st e s' =>
        simp only [Option.some.injEq] at ht
        subst ht
        rw [gcV_sound hv hy hm.left, Option.bind_some, lim_of (hq _ List.mem_cons_self), Option.bind_some]
        refine ⟨rfl, fun id rows hl => ?_⟩
        exact hm.right _ (List.mem_map_of_mem (f := fun p : Nat × List (List PV) => Seen (look s'.heap p.1) p.2) (look_in hl))
  | .exit id, hs, as, vw, s, t, ht, hv, _, _ => by
    simp only [icodeV, Option.some.injEq] at ht
    subst ht
    exact ⟨rfl, hv⟩
  | .ret, hs, as, vw, s, t, ht, hv, _, _ => by
    simp only [icodeV, Option.some.injEq] at ht
    subst ht
    exact ⟨rfl, hv⟩

/-! ### a function -/
def finV (fn : IFn) (m : Nat) (vw : Views) (s : St) : Option (Rs × List Prop) :=
  (mapO (rv s) fn.res).bind fun vs =>
    let a := bif fn.keep then virtL s.nx vs else (vs, s.nx, [])
    let H := look (s.heap ++ a.2.2)
    (passLV (passV H vw fn.keep 8) a.1 (upTo m)).bind fun y =>
      (passObsV H vw false true 32 0 y.1.2.1).bind fun z =>
        bif disj (y.1.2.2 ++ z.1.2.2) z.1.2.1 then some (.ret (match y.1.1 with | [v] => v | l => .tup l) (regr m z.1.1), y.2 ++ z.2) else none
theorem finV_sound {fn : IFn} {m : Nat} {vw : Views} {s : St} (hv : VOK (look s.heap) vw) {y : Rs × List Prop} (h : finV fn m vw s = some y) (hm : Met y.2) : fin fn m s = some y.1 := by
  unfold finV at h
  unfold fin
  obtain ⟨vs, hvs, h⟩ := obind_some h
  rw [hvs, Option.bind_some]
  simp only at h ⊢
  have hv' : VOK (look (s.heap ++ (bif fn.keep then virtL s.nx vs else (vs, s.nx, [])).2.2)) vw := by
    intro id rows hl
    obtain ⟨ob, hob, hok⟩ := hv id rows hl
    refine ⟨ob, ?_, hok⟩
    rw [look_app, hob]
  obtain ⟨x, hx, h⟩ := obind_some h
  obtain ⟨z, hz, h⟩ := obind_some h
  cases hd : disj (x.1.2.2 ++ z.1.2.2) z.1.2.1 with
  | false => rw [hd] at h; cases h
  | true =>
    rw [hd] at h
    simp only [cond_true, Option.some.injEq] at h
    subst h
    rw [passLV_sound (passV_sound hv' 8) _ _ x hx hm.left, Option.bind_some, passObsV_sound hv' 32 _ _ z hz hm.right, Option.bind_some, hd]
    rfl

def callV (fn : IFn) (args : List PV) (h : List Ob) (vw : Views) (hs : HintsV) (as : List Ans) : Option (Rs × List Prop × Asked) :=
  bif Nat.beq args.length fn.np then
    (icodeV h.length fn.body hs as vw ⟨args ++ nuns (fn.nt - fn.np), number 0 h, h.length⟩).bind fun x =>
      (match x.ex with
       | .exit _ => none
       | _ => (finV fn h.length x.vw x.st).bind fun r => some (r.1, x.owed ++ r.2, x.asked))
  else none
theorem tells_V {G : Nat → Option Fun} {f : Nat} {fn : IFn} (hG : G f = some (.ir fn)) {args : List PV} {h : List Ob} {vw : Views} (hv : VOK (look (number 0 h)) vw) {hs : HintsV} {as : List Ans} {r : Rs} {ow : List Prop} {ak : Asked} (hp : Met ow) (hq : Told G ak) (ht : callV fn args h vw hs as = some (r, ow, ak)) : Tells G (.call f args h) r := by
  refine tells_phi sure_lim ?_
  unfold callV at ht
  simp only [phi, hG]
  cases hl : Nat.beq args.length fn.np with
  | false => rw [hl] at ht; cases ht
  | true =>
    rw [hl] at ht
    simp only [cond_true] at ht ⊢
    obtain ⟨x, hx, ht⟩ := obind_some ht
    obtain ⟨ex, st, vw1, hs1, as1, ow1, ak1⟩ := x
    cases ex with
    | exit j => cases ht
    | normal =>
      simp only at ht
      obtain ⟨r', hr, ht⟩ := obind_some ht
      simp only [Option.some.injEq, Prod.mk.injEq] at ht
      obtain ⟨rfl, rfl, rfl⟩ := ht
      obtain ⟨r1, r2⟩ := icodeV_sound _ hs as vw _ _ hx hv hp.left hq
      rw [r1, Option.bind_some]
      exact finV_sound r2 hr hp.right
    | ret =>
      simp only at ht
      obtain ⟨r', hr, ht⟩ := obind_some ht
      simp only [Option.some.injEq, Prod.mk.injEq] at ht
      obtain ⟨rfl, rfl, rfl⟩ := ht
      obtain ⟨r1, r2⟩ := icodeV_sound _ hs as vw _ _ hx hv hp.left hq
      rw [r1, Option.bind_some]
      exact finV_sound r2 hr hp.right
theorem VOK.nil {H : Nat → Option Ob} : VOK H [] := fun _ _ h => by cases h

/-! ### a loop's round -/
def nextV (m : Nat) (live : List Nat) (b : IR) (env : List PV) (h : List Ob) (vw : Views) (hs : HintsV) (as : List Ans) : Option ((List PV × List Ob) × List Prop × Asked) :=
  (icodeV m b hs as vw ⟨env, number 0 h, h.length⟩).bind fun x => (match x.ex with | .normal => (gcV x.vw m live x.st).bind fun y => some (y.1, x.owed ++ y.2, x.asked) | _ => none)
theorem tells_nextV {G : Nat → Option Fun} {m : Nat} {live : List Nat} {b : IR} {env : List PV} {h : List Ob} {vw : Views} (hv : VOK (look (number 0 h)) vw) {hs : HintsV} {as : List Ans} {y : List PV × List Ob} {ow : List Prop} {ak : Asked} {r : Rs} (hp : Met ow) (hq : Told G ak) (ht : nextV m live b env h vw hs as = some (y, ow, ak)) (hr : Tells G (.loop m live b y.1 y.2) r) : Tells G (.loop m live b env h) r := by
  unfold nextV at ht
  obtain ⟨x, hx, ht⟩ := obind_some ht
  obtain ⟨ex, st, vw1, hs1, as1, ow1, ak1⟩ := x
  cases ex with
  | normal =>
    simp only at ht
    obtain ⟨y', hg, ht⟩ := obind_some ht
    simp only [Option.some.injEq, Prod.mk.injEq] at ht
    obtain ⟨rfl, rfl, rfl⟩ := ht
    obtain ⟨r1, r2⟩ := icodeV_sound _ hs as vw _ _ hx hv hp.left hq
    exact tells_loop sure_lim r1 (gcV_sound r2 hg hp.right) hr
  | exit j => cases ht
  | ret => cases ht
def leaveV (m : Nat) (b : IR) (env : List PV) (h : List Ob) (vw : Views) (hs : HintsV) (as : List Ans) : Option ((Ex × St) × List Prop × Asked) :=
  (icodeV m b hs as vw ⟨env, number 0 h, h.length⟩).bind fun x => (match x.ex with | .normal => none | e => some ((e, x.st), x.owed, x.asked))
theorem tells_outV {G : Nat → Option Fun} {m : Nat} {live : List Nat} {b : IR} {env : List PV} {h : List Ob} {vw : Views} (hv : VOK (look (number 0 h)) vw) {hs : HintsV} {as : List Ans} {x : Ex × St} {ow : List Prop} {ak : Asked} (hp : Met ow) (hq : Told G ak) (ht : leaveV m b env h vw hs as = some (x, ow, ak)) : Tells G (.loop m live b env h) (.st x.1 x.2) := by
  unfold leaveV at ht
  obtain ⟨y, hy, ht⟩ := obind_some ht
  obtain ⟨ex, st, vw1, hs1, as1, ow1, ak1⟩ := y
  cases ex with
  | normal => cases ht
  | exit j =>
    simp only [Option.some.injEq, Prod.mk.injEq] at ht
    obtain ⟨rfl, rfl, rfl⟩ := ht
    exact tells_leave sure_lim (by intro h; cases h) (icodeV_sound _ hs as vw _ _ hy hv hp hq).1
  | ret =>
    simp only [Option.some.injEq, Prod.mk.injEq] at ht
    obtain ⟨rfl, rfl, rfl⟩ := ht
    exact tells_leave sure_lim (by intro h; cases h) (icodeV_sound _ hs as vw _ _ hy hv hp hq).1
end Go.Pv
