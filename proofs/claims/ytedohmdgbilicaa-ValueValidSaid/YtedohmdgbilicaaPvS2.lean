/-
  What a law is handed, where its bulk is bounded: nothing within is longer.
-/
import Derived.Test.YtedohmdgbilicaaPvZ
import Derived.ChangeArms
import Derived.ChangeSlices
import Derived.ChangeOld
import Derived.Carry
import GoSem.ClaimJoined
namespace Go.Pv
open Go.RowKit

/-- nothing within is longer than N -/
inductive Cap (N : Nat) : PV → Prop
  | bool (b : Bool) : Cap N (.bool b)
  | int (k : IntKind) (n : Int) : Cap N (.int k n)
  | str (s : ByteArray) (h : s.size ≤ N) : Cap N (.str s)
  | sl (l : List (List PV)) (h : l.length ≤ N) (hl : ∀ r ∈ l, ∀ p ∈ r, Cap N p) : Cap N (.sl l)
def CapL (N : Nat) (c : List PV) : Prop := ∀ p ∈ c, Cap N p
theorem CapL.one {N : Nat} {p : PV} (h : Cap N p) : CapL N [p] := fun q hq => by
  rw [List.mem_singleton] at hq
  subst hq
  exact h
inductive CapD {H : Type} (N : Nat) : DataW H → Prop
  | lit (l : Lit) (h : ∀ b, l = .string b → b.length ≤ N) : CapD N (.lit l)
  | agg (parts : List (DataW H)) (h : ∀ d ∈ parts, CapD N d) : CapD N (.agg parts)
  | slice (elems spare : List (DataW H)) (h : elems.length ≤ N) (hl : ∀ d ∈ elems, CapD N d) : CapD N (.slice elems spare)
  | nil : CapD N .nil
  | ptr (d : DataW H) : CapD N (.ptr d)
  | iface (t : String) (d : DataW H) : CapD N (.iface t d)
  | map (e : List (Lit × DataW H)) : CapD N (.map e)
  | held (h : H) : CapD N (.held h)
def ArgB (Γ : Nat → Option Ty) (N : Nat) (ty : Ty) (p : PV) : Prop := ∃ c, Of Γ ty c ∧ CapL N c ∧ (bif ty.isSt Γ then p = .agg c else c = [p])
def ArgsB (Γ : Nat → Option Ty) (N : Nat) : List Ty → List PV → Prop
  | [], [] => True
  | t :: ts, p :: ps => ArgB Γ N t p ∧ ArgsB Γ N ts ps
  | _, _ => False
section
variable {H : Type} {enc : TypeId × Value → H} {P : Program} {w : World} {base : Nat} {sp : Nat → Bool} {held : Bool} {Γ : Nat → Option Ty} {N : Nat}

theorem open_fields2 {n : Nat} {cs : List Value} (ih : ∀ (ty : Ty) (t : TypeId) (cs : List Value) (x : DataW H × List MemPlace), chkTy P Γ ty t = true → DataW.trod enc P w base sp held n t cs = some x → Light P t x.1 → CapD N x.1 → ∃ c, RepN w NoM NoD cs c ∧ Of Γ ty c ∧ CapL N c) :
    ∀ (fs : List Ty) (gs : List Field) (off : Nat) (ys : List (DataW H × List MemPlace)), chkTyL P Γ fs gs off cs.length = true → ys.length = gs.length → (∀ (j : Nat) g, gs[j]? = some g → DataW.trod enc P w base sp held n g.type ((cs.drop g.offset).take (P.cellsOf g.type)) = ys[j]?) →
      (∀ (j : Nat) g y, gs[j]? = some g → ys[j]? = some y → Light P g.type y.1 ∧ CapD N y.1) → ∃ c, RepN w NoM NoD (cs.drop off) c ∧ OfL Γ fs c ∧ CapL N c
  | [], [], off, ys, hc, _, _, _ => by
    simp only [chkTyL] at hc
    have := Nat.eq_of_beq_eq_true hc
    refine ⟨[], ?_, .nil, fun p hp => absurd hp List.not_mem_nil⟩
    rw [this, List.drop_length]
    exact ⟨rfl, fun i v p h => by simp at h⟩
  | [], _ :: _, off, ys, hc, _, _, _ => by cases hc
  | _ :: _, [], off, ys, hc, _, _, _ => by cases hc
  | f :: fs, g :: gs, off, [], hc, hl, _, _ => by simp at hl
  | f :: fs, g :: gs, off, y :: ys, hc, hl, ht, hw => by
    simp only [chkTyL, Bool.and_eq_true] at hc
    have ho := Nat.eq_of_beq_eq_true hc.1.1
    have h0 := ht 0 g rfl
    simp only [List.getElem?_cons_zero] at h0
    obtain ⟨a, ha, hoa, hca⟩ := ih f g.type _ y hc.1.2 h0 (hw 0 g y rfl rfl).1 (hw 0 g y rfl rfl).2
    obtain ⟨b, hb, hob, hcb⟩ := open_fields2 ih fs gs (off + P.cellsOf g.type) ys hc.2 (by simpa using hl) (fun j g' hj => by have := ht (j + 1) g' (by simpa using hj); simpa using this) (fun j g' y' h1 h2 => hw (j + 1) g' y' (by simpa using h1) (by simpa using h2))
    refine ⟨a ++ b, ?_, .cons f fs a b hoa hob, fun p hp => (List.mem_append.1 hp).elim (hca p) (hcb p)⟩
    have : cs.drop off = (cs.drop off).take (P.cellsOf g.type) ++ cs.drop (off + P.cellsOf g.type) := by
      rw [← List.drop_drop]
      exact (List.take_append_drop _ _).symm
    rw [this]
    rw [ho] at ha
    exact ha.app hb

theorem open_pv2 (hΓ : TabOK P Γ) : ∀ (fuel : Nat) (ty : Ty) (t : TypeId) (cs : List Value) (x : DataW H × List MemPlace), chkTy P Γ ty t = true → DataW.trod enc P w base sp held fuel t cs = some x → Light P t x.1 → CapD N x.1 → ∃ c, RepN w NoM NoD cs c ∧ Of Γ ty c ∧ CapL N c := by
  intro fuel
  induction fuel with
  | zero => intro ty t cs x _ h; simp [DataW.trod] at h
  | succ n ih =>
    have core : ∀ (ty : Ty) (t : TypeId) (cs : List Value) (x : DataW H × List MemPlace), ty.named = false → chkTy P Γ ty t = true → DataW.trod enc P w base sp held (n + 1) t cs = some x → Light P t x.1 → CapD N x.1 → ∃ c, RepN w NoM NoD cs c ∧ Of Γ ty c ∧ CapL N c := by
      intro ty t cs x hn hc h hw hcd
      cases ty with
      | nm t' => cases hn
      | bool =>
        simp only [chkTy] at hc
        obtain ⟨b, rfl, rfl⟩ := DataW.trod_bool (isBoolTy_some hc) h
        exact ⟨_, .one rfl (.bool _ _), .bool b, CapL.one (.bool b)⟩
      | int k =>
        simp only [chkTy] at hc
        obtain ⟨m, rfl, rfl, hwf⟩ := DataW.trod_int (intTy_some hc) h
        exact ⟨_, .one rfl (.int _ _ _), .int k m hwf, CapL.one (.int k m)⟩
      | str =>
        simp only [chkTy] at hc
        obtain ⟨s, rfl, rfl, hs⟩ := DataW.trod_string (isStrTy_some hc) h
        refine ⟨_, .one rfl (.str _ _), .str s ?_, CapL.one (.str s (by cases hcd with | lit _ h => simpa using h _ rfl))⟩
        simp only [Light, DataW.weights, List.all_cons, Bool.and_eq_true, decide_eq_true_eq] at hw
        have := hw.1
        unfold reachBytes at this
        simpa using this
      | sl bytes e =>
        simp only [chkTy] at hc
        split at hc
        · rename_i te hu
          rw [Bool.and_eq_true, Bool.and_eq_true] at hc
          have hby := Nat.eq_of_beq_eq_true hc.1.1
          have hsz := Nat.le_of_ble_eq_true hc.1.2
          rcases DataW.trod_slice hu h with ⟨rfl, rfl⟩ | ⟨a, len, cap, elems, rest, n', hn', rfl, rfl, hb, hl, hm, hlen, hel, _, _⟩
          · refine ⟨[.sl []], .one rfl (.sl _ _ _ _ 0 [] 0 0 (fun _ _ => default) rfl (Nat.le_refl _) (Nat.zero_le _) (fun r hr => absurd hr List.not_mem_nil) (fun h => by omega) (fun j r hj => by simp at hj) (fun j r hj => by simp at hj)), .sl _ _ [] (by simp) (fun r hr => absurd hr List.not_mem_nil), CapL.one (.sl [] (Nat.zero_le _) (fun r hr => absurd hr List.not_mem_nil))⟩
          · have hnn : n' = n := by omega
            subst hnn
            simp only [Light, DataW.weights, hu, List.all_cons, List.all_append, Bool.and_eq_true, decide_eq_true_eq, List.length_map] at hw
            obtain ⟨hw1, hw2, _⟩ := hw
            have hlight := light_all hw2
            have hcap : elems.length ≤ N ∧ ∀ z ∈ elems, CapD N z.1 := by
              cases hcd with
              | slice _ _ h1 h2 => exact ⟨by simpa using h1, fun z hz => h2 _ (List.mem_map.2 ⟨z, hz, rfl⟩)⟩
            have each : ∀ i, i < len → ∃ r, (∃ ys, w.cells? base (a.add (i * P.cellsOf te)) (P.cellsOf te) = some ys ∧ RepN w NoM NoD ys r) ∧ Of Γ e r ∧ CapL N r := by
              intro i hi
              have h1 := hel i hi
              have hi' : i < elems.length := by omega
              rw [List.getElem?_eq_getElem hi'] at h1
              obtain ⟨ys, hy1, hy2⟩ := Option.bind_eq_some_iff.1 h1
              obtain ⟨r, hr, hor⟩ := ih e te ys _ hc.2 hy2 (hlight _ (List.mem_map.2 ⟨_, List.getElem_mem hi', rfl⟩)) (hcap.2 _ (List.getElem_mem hi'))
              exact ⟨r, ⟨ys, hy1, hr⟩, hor⟩
            obtain ⟨l, hll, hlq⟩ := choose_list len each
            have hcellsz : ∀ i ys, i < len → w.cells? base (a.add (i * P.cellsOf te)) (P.cellsOf te) = some ys → ys.length = P.cellsOf te ∧ ∀ j, j < P.cellsOf te → w.cell? ((a.add (i * P.cellsOf te)).add j) = ys[j]? := by
              intro i ys _ hy
              have := World.cells?_some hy
              exact ⟨this.2.1, this.2.2⟩
            have hspot : 0 < len → a = ⟨a.block, a.off, none⟩ := by
              intro hpos
              obtain ⟨r, ⟨ys, hy, hr⟩, _⟩ := each 0 hpos
              obtain ⟨hyl, hyc⟩ := hcellsz 0 ys hpos hy
              have h0 := hyc 0 (by omega)
              rw [List.getElem?_eq_getElem (by omega)] at h0
              simp only [Nat.zero_mul, Addr.add, if_true] at h0
              obtain ⟨b, o, s⟩ := a
              cases s with
              | none => rfl
              | some s =>
                simp only [World.cell?] at h0
                split at h0 <;> simp at h0
            have hadd : ∀ i j, 0 < len → (a.add (i * P.cellsOf te)).add j = ⟨a.block, a.off + i * P.cellsOf te + j, none⟩ := by
              intro i j hpos
              rw [hspot hpos]
              unfold Addr.add
              by_cases h1 : i * P.cellsOf te = 0 <;> by_cases h2 : j = 0 <;> simp [h1, h2]
            refine ⟨[.sl l], .one rfl (.sl _ (some a) len cap (P.cellsOf te) l a.block a.off (fun j i => (w.cell? ⟨a.block, a.off + j * P.cellsOf te + i, none⟩).getD default) hll hl hm ?_ (fun hp => congrArg some (hspot hp)) ?_ ?_), .sl bytes e l ?_ ?_, CapL.one (.sl l (by rw [hll]; omega) (fun r hr => by
              obtain ⟨i, hi⟩ := List.getElem?_of_mem hr
              exact (hlq i r hi).2.2))⟩
            · intro r hr
              obtain ⟨i, hi⟩ := List.getElem?_of_mem hr
              have hil := (List.getElem?_eq_some_iff.1 hi).1
              obtain ⟨⟨ys, hy, hrn⟩, _⟩ := hlq i r hi
              rw [← hrn.1]
              exact (hcellsz i ys (by omega) hy).1
            · intro j r hj i p hi
              have hjl := (List.getElem?_eq_some_iff.1 hj).1
              have hil := (List.getElem?_eq_some_iff.1 hi).1
              obtain ⟨⟨ys, hy, hrn⟩, _⟩ := hlq j r hj
              obtain ⟨hyl, hyc⟩ := hcellsz j ys (by omega) hy
              have hiy : i < ys.length := by rw [hrn.1]; exact hil
              have := hyc i (by omega)
              rw [hadd j i (by omega), List.getElem?_eq_getElem hiy] at this
              refine ⟨fun h => h, by rw [this]; rfl, ?_⟩
              rw [this]
              exact (hrn.2 i _ p (List.getElem?_eq_getElem hiy) hi).1
            · intro j r hj i p hi
              have hjl := (List.getElem?_eq_some_iff.1 hj).1
              have hil := (List.getElem?_eq_some_iff.1 hi).1
              obtain ⟨⟨ys, hy, hrn⟩, _⟩ := hlq j r hj
              obtain ⟨hyl, hyc⟩ := hcellsz j ys (by omega) hy
              have hiy : i < ys.length := by rw [hrn.1]; exact hil
              have := hyc i (by omega)
              rw [hadd j i (by omega), List.getElem?_eq_getElem hiy] at this
              rw [this]
              exact (hrn.2 i _ p (List.getElem?_eq_getElem hiy) hi).2
            · rw [← hby, hll]
              unfold reachBytes at hw1
              have : len * P.bytesOf te ≤ (elems.length + rest.length) * P.bytesOf te := Nat.mul_le_mul_right _ (by omega)
              omega
            · intro r hr
              obtain ⟨i, hi⟩ := List.getElem?_of_mem hr
              exact (hlq i r hi).2.1
        · cases hc
      | st fs =>
        simp only [chkTy] at hc
        split at hc
        · rename_i gs hu
          obtain ⟨xs, n', hn', rfl, hl, hxl, hx⟩ := DataW.trod_struct hu h
          have hnn : n' = n := by omega
          subst hnn
          rw [← hl] at hc
          simp only [Light, DataW.weights, hu] at hw
          have hlight := light_each hw
          have hcap : ∀ z ∈ xs, CapD N z.1 := by
            cases hcd with
            | agg _ h => exact fun z hz => h _ (List.mem_map.2 ⟨z, hz, rfl⟩)
          obtain ⟨c, hr, ho, hcc⟩ := open_fields2 ih fs gs.toList 0 xs hc (by simpa using hxl) (fun j g hj => hx j g (by simpa using hj)) (fun j g y hj hy => ⟨hlight j g.type y.1 (by simp [hj]) (by simp [hy]), hcap y (List.mem_of_getElem? hy)⟩)
          exact ⟨c, by simpa using hr, .st fs c ho, hcc⟩
        · cases hc
    intro ty t cs x hc h hw hcd
    cases hty : ty.named with
    | false => exact core ty t cs x hty hc h hw hcd
    | true =>
      cases ty with
      | nm t' =>
        simp only [chkTy, Bool.and_eq_true] at hc
        have := Nat.eq_of_beq_eq_true hc.1
        subst this
        obtain ⟨ty', hty'⟩ := Option.isSome_iff_exists.1 hc.2
        obtain ⟨h1, h2⟩ := hΓ _ _ hty'
        obtain ⟨c, hr, ho, hcc⟩ := core ty' t' cs x h1 h2 h hw hcd
        exact ⟨c, hr, .nm t' ty' c hty' ho, hcc⟩
      | _ => cases hty

theorem open_arg2 (hΓ : TabOK P Γ) {ty : Ty} {t : TypeId} (hc : chkTy P Γ ty t = true) (hs : (match P.underlying t with | some (.struct _) => ty.isSt Γ | some (.array _ _) => false | _ => !(ty.isSt Γ)) = true) {r : Reach} {b0 : Nat} {v : Value} {d : DataW H} {ps : List MemPlace} (hval : Value.okWide P w r b0 t v) (h : DataW.Trod enc P w base sp held t v d ps) (hw : Light P t d) (hcd : CapD N d) :
    ∃ p, Rep w NoM NoD v p ∧ ArgB Γ N ty p := by
  obtain ⟨fuel, hf⟩ := h
  obtain ⟨c, hr, ho, hcc⟩ := open_pv2 hΓ fuel ty t _ _ hc hf hw hcd
  unfold Value.okWide at hval
  split at hs
  · rename_i fs hu
    rw [hu] at hval
    obtain ⟨cs, rfl, _, _⟩ := hval
    refine ⟨.agg c, .agg _ cs c (by simpa [Value.cells] using hr.1) (fun i v p hv hp => (hr.2 i v p (by simpa [Value.cells] using hv) hp).1) (fun i v p hv hp => (hr.2 i v p (by simpa [Value.cells] using hv) hp).2), c, ho, hcc, ?_⟩
    rw [hs]
    rfl
  · cases hs
  · rename_i hn1 hn2
    have hcell : Cell.okWide P w r b0 t v := by
      split at hval
      · rename_i fs hu; exact absurd hu (hn1 fs)
      · rename_i k e hu; exact absurd hu (hn2 k e)
      · exact hval
    have hone : v.oneCell' = true := by
      cases v with
      | agg cs => unfold Cell.okWide Cell.ok at hcell; split at hcell <;> simp_all
      | tuple cs => unfold Cell.okWide Cell.ok at hcell; split at hcell <;> simp_all
      | _ => rfl
    have hcs : v.cells.toList = [v] := by cases v <;> first | rfl | (cases hone)
    rw [hcs] at hr
    have hlen := hr.1
    cases c with
    | nil => simp at hlen
    | cons p rest =>
      have : rest = [] := List.eq_nil_of_length_eq_zero (by simpa using hlen.symm)
      subst this
      refine ⟨p, (hr.2 0 v p rfl rfl).2, [p], ho, hcc, ?_⟩
      have : ty.isSt Γ = false := by simpa using hs
      rw [this]
      rfl

theorem open_args2 (hΓ : TabOK P Γ) {r : Reach} {b0 : Nat} : ∀ {tys : List Ty} {ts : List TypeId} {vs : List Value} {ds : List (DataW H)} {ps : List MemPlace}, chkArgs P Γ tys ts = true → (∀ (j : Nat) t v, ts[j]? = some t → vs[j]? = some v → Value.okWide P w r b0 t v) → DataW.TrodAll enc P w base sp held ts vs ds ps →
    (DataW.weightsEach P ts ds).all (· ≤ reachBytes) = true → (∀ d ∈ ds, CapD N d) → ∃ qs, RepL w NoM NoD vs qs ∧ ArgsB Γ N tys qs
  | [], [], vs, ds, ps, _, _, h, _, _ => by
    obtain ⟨rfl, rfl, rfl⟩ := ChangeShapes.trodAll_nil h
    exact ⟨[], RepL.nil _ _ _, trivial⟩
  | [], _ :: _, _, _, _, hc, _, _, _, _ => by cases hc
  | _ :: _, [], _, _, _, hc, _, _, _, _ => by cases hc
  | ty :: tys, t :: ts, vs, ds, ps, hc, hv, h, hw, hcd => by
    simp only [chkArgs, Bool.and_eq_true] at hc
    obtain ⟨v, vs', d, ds', p, q, rfl, rfl, rfl, h1, h2⟩ := ChangeShapes.trodAll_cons h
    simp only [DataW.weightsEach, List.all_append, Bool.and_eq_true] at hw
    obtain ⟨x, hx, hax⟩ := open_arg2 hΓ hc.1.1.1.1 hc.1.1.1.2 (hv 0 t v rfl rfl) h1 hw.1 (hcd _ List.mem_cons_self)
    obtain ⟨qs, hq, haq⟩ := open_args2 hΓ hc.2 (fun j t' v' h1 h2 => hv (j + 1) t' v' (by simpa using h1) (by simpa using h2)) h2 hw.2 (fun d' hd' => hcd d' (List.mem_cons_of_mem _ hd'))
    exact ⟨x :: qs, RepL.cons hx hq, hax, haq⟩

end
theorem ArgB.one {Γ : Nat → Option Ty} {N : Nat} {ty : Ty} {p : PV} (h : ArgB Γ N ty p) (hs : ty.isSt Γ = false) : Of Γ ty [p] ∧ CapL N [p] := by
  obtain ⟨c, hc, hb, hp⟩ := h
  rw [hs] at hp
  have hp : c = [p] := hp
  subst hp
  exact ⟨hc, hb⟩
theorem ArgB.agg {Γ : Nat → Option Ty} {N : Nat} {ty : Ty} {p : PV} (h : ArgB Γ N ty p) (hs : ty.isSt Γ = true) : ∃ c, p = .agg c ∧ Of Γ ty c ∧ CapL N c := by
  obtain ⟨c, hc, hb, hp⟩ := h
  rw [hs] at hp
  exact ⟨c, hp, hc, hb⟩
theorem Cap.strI {N : Nat} {s : ByteArray} (h : Cap N (.str s)) : s.size ≤ N := by
  cases h with
  | str _ h => exact h
theorem Cap.slI {N : Nat} {l : List (List PV)} (h : Cap N (.sl l)) : l.length ≤ N ∧ ∀ r ∈ l, CapL N r := by
  cases h with
  | sl _ h hl => exact ⟨h, hl⟩
theorem Cap.rowsI {N : Nat} {α : Type} {f : α → List PV} {l : List α} (h : Cap N (.sl (l.map f))) : l.length ≤ N ∧ ∀ x ∈ l, CapL N (f x) := by
  obtain ⟨h1, h2⟩ := h.slI
  exact ⟨by simpa using h1, fun x hx => h2 _ (List.mem_map.2 ⟨x, hx, rfl⟩)⟩
/-- A law whose arguments' bulk is bounded. -/
theorem law_callsB {P : Program} {G : Nat → Option Fun} (hm : P.follows .mixedOrders = true) (hT : Tie P G) {Γ : Nat → Option Ty} {N : Nat} {tys : List Ty} {f : Nat} (hpure : ∀ qs, ArgsB Γ N tys qs → ∃ n, runs G n (.call f qs []) = some (.ret (.bool true) []))
    {W : World} {args : Array Value} (h : ∃ qs, RepL W NoM NoD args.toList qs ∧ ArgsB Γ N tys qs) : Calls P f args W fun e W' => e = .returned (.bool true) ∧ Below W.heap.size W W' := by
  obtain ⟨qs, hq, ha⟩ := h
  obtain ⟨n, hn⟩ := hpure qs ha
  obtain ⟨_, hok⟩ := (runs_sound hm hT n).1 f qs [] _ _ hn
  have hnoM : ∀ b o, Mut NoD (hF []) NoM b o → NoM b o := by
    rintro b o (h | ⟨id, ob, h1, _⟩)
    · exact h
    · simp [hF] at h1
  refine (hok W NoD NoM args ⟨fun b o h => h.elim, Nat.le_refl _, fun id b h => (by cases h), fun id ob h => (by simp [hF] at h), fun i j a b k h => (by simp [hF] at h), fun id ob b o h => (by simp [hF] at h)⟩ (fun _ _ => rfl) (hq.mono fun v p h => h.to (fun b o _ h => hnoM b o h) (fun _ _ h => h))).mono ?_
  rintro e W' ⟨v, D', rfl, _, hk, _, _, _, _, hr⟩
  cases hr with
  | bool _ _ =>
    refine ⟨rfl, (hk.mono (M1 := fun _ _ => False) ?_).below⟩
    rintro b o _ ⟨id, ob, h1, _⟩
    simp [hF] at h1
theorem Val_capN {N : Nat} : ∀ (k : Nat) (v : Val), SizeOf.sizeOf v < k → CapL N v.cells → Val.Sm N v
  | 0, _, h, _ => absurd h (Nat.not_lt_zero _)
  | k + 1, v, hk, h => by
    have h1 : Cap N (.sl (Val.rows v.list)) := h _ (by simp [Val.cells])
    have h2 : Cap N (.sl (Fld.rows v.fields)) := h _ (by simp [Val.cells])
    rw [Val.rowsMap] at h1
    rw [Fld.rowsMap] at h2
    obtain ⟨a1, a2⟩ := h1.rowsI
    obtain ⟨b1, b2⟩ := h2.rowsI
    refine .mk v a1 b1 (fun x hx => Val_capN k x ?_ (a2 x hx)) (fun x hx => Val_capN k x.v ?_ (fun p hp => b2 x hx p (by simp only [Val.cells, Fld.cells, List.mem_cons] at hp ⊢; exact .inr hp)))
    · have := List.sizeOf_lt_of_mem hx
      have := v.lt_list
      omega
    · have := List.sizeOf_lt_of_mem hx
      have := v.lt_fields
      have := x.lt_v
      omega
theorem Val_capOf {N : Nat} {v : Val} (h : CapL N v.cells) : Val.Sm N v := Val_capN _ v (Nat.lt_succ_self _) h
theorem Fld_capOf {N : Nat} {f : Fld} (h : CapL N f.cells) : Val.Sm N f.v := Val_capOf fun p hp => h p (by simp only [Val.cells, Fld.cells, List.mem_cons] at hp ⊢; exact .inr hp)
end Go.Pv
