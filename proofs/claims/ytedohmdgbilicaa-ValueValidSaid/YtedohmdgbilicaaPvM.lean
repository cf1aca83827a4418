/-
  A call, a single operation: what 'iop' says is what the machine does.
-/
import Derived.Test.YtedohmdgbilicaaPvL
namespace Go.Pv
open Go.RowKit

/-- What the oracle says of calls is so. -/
def CallsOK (P : Program) (X : Orc) : Prop := ∀ f args h r h', X (.call f args h) = some (.ret r h') → Callable P f ∧ CallOK P f args h r h'

def chkC (op : Op) : IOp → Bool
  | .call _ y ys => (match op with | .call c => (match c.callee with | .value x => opdOK x y && opdsOK c.args.toList ys | _ => false) | _ => false)
  | _ => false
def chkOp (P : Program) (op : Op) (io : IOp) : Bool := chkP P op io || (chkH P op io || chkC op io)

section
variable {P : Program} {X : Orc} {w : World} {D : Nat → Option Nat} {H : Nat → Option Ob} {F : Nat → Nat → Prop} {n0 m fr : Nat} {a : Act} {e : Nat → PV}

theorem call_sound (hX : CallsOK P X) (S : Sim w D H F n0 m) (hfr : ∀ id, fr ≤ id → id < fr + 64 → D id = none ∧ H id = none) {byRef : Bool} {f : Nat} {args : List PV} {vals : Array Value}
    (hv : RepL w (Mut D H F) D vals.toList args) {eff : Eff} (h : icall X H fr byRef f args = some eff) :
    Callable P f ∧ Calls P f vals w fun e w' => ∃ v D', e = .returned v ∧ Step w D H F n0 m fr w' D' (upH H eff.hw) ∧ Rep w' (Mut D' (upH H eff.hw) F) D' v eff.v := by
  unfold icall at h
  obtain ⟨y, hy, h⟩ := bind_some h
  obtain ⟨z, hz, h⟩ := bind_some h
  obtain ⟨hdj, h⟩ := bif_some h
  obtain ⟨r, hr, h⟩ := bind_some h
  have hdj := disj_iff.1 hdj
  cases r with
  | st x s => cases h
  | ret v hh =>
    simp only at h
    obtain ⟨hle, h⟩ := bif_some h
    obtain ⟨v', hv', h⟩ := bind_some h
    obtain ⟨ws, hws, h⟩ := bind_some h
    rw [Bool.and_eq_true] at hle
    have hlen := Nat.le_of_ble_eq_true hle.1
    have h64 := Nat.le_of_ble_eq_true hle.2
    obtain ⟨hcallable, hcall⟩ := hX _ _ _ _ _ hr
    refine ⟨hcallable, ?_⟩
    -- what is handed over
    have hy0 := passL_sound (M := Mut D H F) (fun p ids x hx => pass_sound S (fun _ _ _ h => h) byRef 8 p ids x hx) args [] y hy
    have hnd0 : y.2.1.Nodup := hy0.2.1 List.nodup_nil
    have hz0 := passObs_sound (M := Mut D H F) S (fun _ _ _ h => h) false false 16 0 y.2.1 z (Nat.zero_le _) hz
    have hnd : z.2.1.Nodup := hz0.2.1 hnd0
    have hcl : z.1.length = z.2.1.length := by have := hz0.2.2.1; omega
    have hlt : ∀ b o, Off D H F z.2.1 (y.2.2 ++ z.2.2) b o → Mut D H F b o := by
      rintro b o (h | ⟨id, ob, h1, h2, _, h3, _⟩)
      · exact .inl h
      · exact .inr ⟨id, ob, h1, h2, h3⟩
    have hO := handover S false false hz hnd0 (lent := y.2.2 ++ z.2.2) (fun x hx => List.mem_append_right _ hx) (F' := Off D H F z.2.1 (y.2.2 ++ z.2.2)) hlt
      (by
        rintro id hi ob b o h1 h2 h3 (h | ⟨id', ob', g1, g2, _, _, g3⟩)
        · exact S.dis id ob b o h1 h2 h
        · have := S.inj id id' ob ob' b h1 g1 h2 g2
          subst this
          rw [h1] at g1
          injection g1 with g1
          subst g1
          have := g3 hi
          omega)
      hdj (n' := w.heap.size) (m' := z.2.1.length)
      (by
        rintro b o (h | ⟨id, ob, h1, h2, _, h3, _⟩)
        · exact Nat.lt_of_lt_of_le (S.fr b o h) S.le
        · exact MutO_lt S ⟨id, ob, h1, h2, h3⟩)
      (Nat.le_refl _)
      (by
        intro p b hp
        unfold Dof at hp
        cases hq : z.2.1[p]? with
        | none => rw [hq] at hp; cases hp
        | some id => exact .inl (List.getElem?_eq_some_iff.1 hq).1)
      (by
        rintro id ob b o hi h1 h2 (h | ⟨id', ob', g1, g2, g3, _⟩)
        · exact S.dis id ob b o h1 h2 h
        · have := S.inj id id' ob ob' b h1 g1 h2 g2
          subst this
          exact g3 hi)
      (by intro id ob b _ hg; simp at hg)
    obtain ⟨hsub1, hlent, S1⟩ := hO
    have at_ : ∀ (j : Nat) id, z.2.1[j]? = some id → ∃ ob, H id = some ob := by
      intro j id hj
      have hjl : j < z.1.length := by rw [hcl]; exact (List.getElem?_eq_some_iff.1 hj).1
      have hM0 : ∀ b o, b < w.heap.size → (fun _ _ => False : Nat → Nat → Prop) b o → Mut D H F b o := fun _ _ _ h => h.elim
      obtain ⟨_, _, _, c4⟩ := passObs_sound (M := fun _ _ => False) S hM0 false false 16 0 y.2.1 z (Nat.zero_le _) hz
      obtain ⟨id', ob, h1, h2, _⟩ := c4 z.2.1 (List.prefix_refl _) (fun _ _ _ _ _ _ _ _ h => h) j _ (List.getElem?_eq_getElem hjl)
      rw [Nat.zero_add, hj] at h1
      injection h1 with h1
      subst h1
      exact ⟨ob, h2⟩
    have hsubO : ∀ b o, MutO (Dof D z.2.1) (hF z.1) b o → MutO D H b o := by
      rintro b o ⟨p, ob, h1, h2, h3⟩
      have hM0 : ∀ b o, b < w.heap.size → (fun _ _ => False : Nat → Nat → Prop) b o → Mut D H F b o := fun _ _ _ h => h.elim
      obtain ⟨_, _, _, c4⟩ := passObs_sound (M := fun _ _ => False) S hM0 false false 16 0 y.2.1 z (Nat.zero_le _) hz
      obtain ⟨id', ob', e1, e2, _, e3, _⟩ := c4 z.2.1 (List.prefix_refl _) (fun _ _ _ _ _ _ _ _ h => h) p ob h1
      rw [Nat.zero_add] at e1
      unfold Dof at h2
      rw [e1] at h2
      exact ⟨id', ob', e2, h2, by omega⟩
    have hargs : RepL w (Mut (Dof D z.2.1) (hF z.1) (Off D H F z.2.1 (y.2.2 ++ z.2.2))) (Dof D z.2.1) vals.toList y.1 := by
      obtain ⟨_, _, c3, c4⟩ := passL_sound (fun p ids x hx => pass_sound S (M := Mut (Dof D z.2.1) (hF z.1) (Off D H F z.2.1 (y.2.2 ++ z.2.2))) (fun b o _ h => hsub1 b o h) byRef 8 p ids x hx) args [] y hy
      refine ⟨by rw [c3]; exact hv.1, fun i u q hu hq => ?_⟩
      have hlt : i < args.length := by rw [← c3]; exact (List.getElem?_eq_some_iff.1 hq).1
      exact c4 z.2.1 hz0.1 hlent.left i u args[i] q (List.getElem?_eq_getElem hlt) hq (hv.2 i u _ hu (List.getElem?_eq_getElem hlt))
    have hrun := hcall w (Dof D z.2.1) (Off D H F z.2.1 (y.2.2 ++ z.2.2)) vals (by rw [hcl]; exact S1) (fun id hi => by
      unfold Dof
      rw [List.getElem?_eq_none (by omega)]
      rfl) hargs
    refine hrun.mono ?_
    rintro e w' ⟨u, D1, rfl, S2, hk, hD1, hD2, hsub2, _, hrep⟩
    rw [hcl] at S2 hD1
    have cb : ∀ (cl : List (Nat × Option Ob)) (fl : Bool), ((fl = true ∧ cl = [] ∧ ∀ ob ∈ hh, ∀ p ∈ ob.cells, flat 8 p = true) ∨ (fl = false ∧ shut H (y.2.2 ++ z.2.2) = some cl)) → (fl = true → flat 8 v = true) → eff.hw = ws ++ cl → eff.v = v' →
        ∃ v D', Ending.returned u = .returned v ∧ Step w D H F n0 m fr w' D' (upH H eff.hw) ∧ Rep w' (Mut D' (upH H eff.hw) F) D' v eff.v := by
      intro cl fl hclo hfl e1 e2
      obtain ⟨D', st, conv⟩ := come_back S hfr hnd (fun id hi => by obtain ⟨j, hj⟩ := List.getElem?_of_mem hi; exact at_ j id hj) hdj hsub1 hsubO S2 hk hD1 hD2 hsub2 hlen h64 hws hclo
      rw [e1, e2]
      exact ⟨u, D', rfl, st, conv u v v' hfl hrep hv'⟩
    cases hflat : (flat 8 v && hh.all (fun ob => ob.cells.all (flat 8))) with
    | true =>
      rw [hflat] at h
      simp only [cond_true, Option.some.injEq] at h
      subst h
      rw [Bool.and_eq_true] at hflat
      refine cb [] true (.inl ⟨rfl, rfl, fun ob hob p hp => ?_⟩) (fun _ => hflat.1) (by simp) rfl
      have := List.all_eq_true.1 hflat.2 ob hob
      exact List.all_eq_true.1 this p hp
    | false =>
      rw [hflat] at h
      simp only [cond_false] at h
      obtain ⟨cl, hcl', h⟩ := bind_some h
      injection h with h
      subst h
      exact cb cl false (.inr ⟨rfl, hcl'⟩) (fun h => by cases h) rfl rfl

theorem run_call {f : Nat} {args : Array Value} (hc : Callable P f) : (callFunc f args).run P w = .ok (.enter f args) w := by
  obtain ⟨fn, h1, h2, h3⟩ := hc
  have h3' : fn.name ≠ "runtime.NumGoroutine" := by simpa using h3
  have h2' : fn.body ≠ none := fun h => by rw [h] at h2; cases h2
  simp [callFunc, h1, h2', h3']

/-- ONE OPERATION. -/
theorem iop_sound (hX : CallsOK P X) (S : Sim w D H F n0 m) (hfr : ∀ id, fr ≤ id → id < fr + 64 → D id = none ∧ H id = none) (he : EnvOK w (Mut D H F) D a e) {o : Oper} {io : IOp} (hc : chkOp P o.op io = true) {f : Eff} (h : iop X e H fr io = some f)
    {K : Act → World → Prop} {Q : Exit → Act → World → Prop} (hK : ∀ v w' D', Step w D H F n0 m fr w' D' (upH H f.hw) → Rep w' (Mut D' (upH H f.hw) F) D' v f.v → K (a.put o.dst v) w') : Oper.wp P o a w K Q := by
  have hfr0 : D fr = none := (hfr fr (Nat.le_refl _) (by omega)).1
  have pure_ : chkP P o.op io = true → (opP e io).bind (fun v => some (⟨v, [], []⟩ : Eff)) = some f → Oper.wp P o a w K Q := by
    intro hcp h
    obtain ⟨p, hp, h⟩ := bind_some h
    injection h with h
    subst h
    obtain ⟨v, hr, hrep⟩ := opP_sound (P := P) he hcp hp
    unfold Oper.wp
    rw [hr]
    exact hK v w D (Step.same S rfl rfl rfl rfl) hrep
  have alloc_ : chkH P o.op io = true → (opA e fr io).bind (fun y => some (⟨y.1, [(fr, some y.2)], []⟩ : Eff)) = some f → Oper.wp P o a w K Q := by
    intro hch h
    obtain ⟨y, hy, h⟩ := bind_some h
    injection h with h
    subst h
    obtain ⟨v, w', D', hr, hst, hrep⟩ := opA_sound S hfr0 he hch hy
    unfold Oper.wp
    rw [hr]
    exact hK v w' D' hst hrep
  have whichH : ∀ io, chkP P o.op io = false → chkC o.op io = false → chkOp P o.op io = true → chkH P o.op io = true := by
    intro io h1 h2 h3
    unfold chkOp at h3
    rw [h1, h2] at h3
    simpa using h3
  have whichP : ∀ io, chkH P o.op io = false → chkC o.op io = false → chkOp P o.op io = true → chkP P o.op io = true := by
    intro io h1 h2 h3
    unfold chkOp at h3
    rw [h1, h2] at h3
    simpa using h3
  cases io with
  | box n x => exact alloc_ (whichH _ rfl rfl hc) h
  | zero z => exact alloc_ (whichH _ rfl rfl hc) h
  | lit sz n z ps => exact alloc_ (whichH _ rfl rfl hc) h
  | mks sz b z n => exact alloc_ (whichH _ rfl rfl hc) h
  | load n ag x =>
    have hch := whichH _ rfl rfl hc
    simp only [chkH] at hch
    split at hch
    · rename_i t x' heq
      rw [Bool.and_eq_true] at hch
      obtain ⟨v, hr, hrep, hw⟩ := load_sound S he heq hch.1 hch.2 h
      unfold Oper.wp
      rw [hr]
      refine hK v w D ?_ ?_
      · rw [hw]; exact Step.same S rfl rfl rfl rfl
      · rw [hw]; exact hrep
    · cases hch
  | store n x u =>
    have hch := whichH _ rfl rfl hc
    simp only [chkH] at hch
    split at hch
    · rename_i t x' z' heq
      rw [Bool.and_eq_true, Bool.and_eq_true] at hch
      obtain ⟨w', hr, hst, hv⟩ := store_sound (fr := fr) S he heq hch.1.1 hch.1.2 hch.2 h
      unfold Oper.wp
      rw [hr]
      exact hK undef w' D hst (by rw [hv]; exact .un _ _)
    · cases hch
  | append sz b x u =>
    obtain ⟨v, w', D', hr, hst, hrep⟩ := append_sound S hfr0 he (whichH _ rfl rfl hc) h
    unfold Oper.wp
    rw [hr]
    exact hK v w' D' hst hrep
  | clear sz z x =>
    obtain ⟨v, w', hr, hst, hv, rfl⟩ := clear_sound (fr := fr) S he (whichH _ rfl rfl hc) h
    unfold Oper.wp
    rw [hr]
    exact hK _ w' D hst (by rw [hv]; exact .tup _ _ _ rfl (fun i v p hv => by simp at hv))
  | call byRef g ys =>
    have hcc : chkC o.op (.call byRef g ys) = true := by
      unfold chkOp at hc
      simpa [chkP, chkH] using hc
    obtain ⟨dst, op, type, pos, after, guard⟩ := o
    simp only [chkC] at hcc
    split at hcc
    · rename_i c
      split at hcc
      · rename_i x hcallee
        rw [Bool.and_eq_true] at hcc
        have hx := opd_sound he hcc.1
        have hargs := opds_sound he hcc.2
        obtain ⟨t, ht, h⟩ := bind_some h
        unfold target at ht
        split at ht
        · rename_i k a1 b1 hfn
          injection ht with ht
          subst ht
          rw [hfn] at hx
          generalize hgx : a.eval x = vx at hx
          cases hx with
          | fn _ _ xs zs _ _ ha hb h1 h2 =>
            have hvals : RepL w (Mut D H F) D (xs ++ c.args.map a.eval ++ zs).toList (a1 ++ evs e ys ++ b1) := by
              rw [Array.toList_append, Array.toList_append, Array.toList_map]
              exact RepL.append (RepL.append ⟨by simpa using ha, fun i v p hv hp => h1 i v p (by simpa using hv) hp⟩ hargs) ⟨by simpa using hb, fun i v p hv hp => h2 i v p (by simpa using hv) hp⟩
            obtain ⟨hcal, hrun⟩ := call_sound hX S hfr hvals h
            have hx' : (execOp a.eval ⟨dst, .call c, type, pos, after, guard⟩).run P w = .ok (.enter k (xs ++ c.args.map a.eval ++ zs)) w := by
              simp only [execOp, resolve, hcallee, hgx, Deferred.ofValue, invoke]
              simp only [Sem.run_bind, Sem.run_pure, Result.andThen_ok]
              exact run_call hcal
            unfold Oper.wp
            rw [hx']
            refine hrun.mono ?_
            rintro e' w' ⟨v, D', rfl, hst, hrep⟩
            exact hK v w' D' hst hrep
        · cases ht
      · cases hcc
    · cases hcc
  | _ => exact pure_ (whichP _ rfl rfl hc) h

end
end Go.Pv
