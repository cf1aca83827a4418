/- Texts of the claim, merged by a program; what the statement does not reach is left out. -/
import Derived.Test.YtimjjohlpnkacaaGreatBWorkcodecBack3
import Derived.ChangeArms
import Derived.ChangeSlices
import Derived.ChangeOld
import Derived.Carry
import GoSem.ClaimJoined

section
/-
  What a law is handed, where its bulk is bounded: nothing within is longer.
-/
namespace Go.Pv
open Go.RowKit
inductive Cap (N : Nat) : PV → Prop
  | bool (b : Bool) : Cap N (.bool b)
  | int (k : IntKind) (n : Int) : Cap N (.int k n)
  | str (s : ByteArray) (h : s.size ≤ N) : Cap N (.str s)
  | sl (l : List (List PV)) (h : l.length ≤ N) (hl : ∀ r ∈ l, ∀ p ∈ r, Cap N p) : Cap N (.sl l)
def CapL (N : Nat) (c : List PV) : Prop := ∀ p ∈ c, Cap N p
theorem CapL.one {N : Nat} {p : PV} (h : Cap N p) : CapL N [p] := fun q hq => by
 rw [List.mem_singleton] at hq
 subst hq
 exact h
inductive CapD {H : Type} (N : Nat) : DataW H → Prop
  | lit (l : Lit) (h : ∀ b, l = .string b → b.length ≤ N) : CapD N (.lit l)
  | agg (parts : List (DataW H)) (h : ∀ d ∈ parts, CapD N d) : CapD N (.agg parts)
  | slice (elems spare : List (DataW H)) (h : elems.length ≤ N) (hl : ∀ d ∈ elems, CapD N d) : CapD N (.slice elems spare)
  | nil : CapD N .nil
  | ptr (d : DataW H) : CapD N (.ptr d)
  | iface (t : String) (d : DataW H) : CapD N (.iface t d)
  | map (e : List (Lit × DataW H)) : CapD N (.map e)
  | held (h : H) : CapD N (.held h)
def ArgB (Γ : Nat → Option Ty) (N : Nat) (ty : Ty) (p : PV) : Prop := ∃ c, Of Γ ty c ∧ CapL N c ∧ (bif ty.isSt Γ then p = .agg c else c = [p])
def Q1ev (Γ : Nat → Option Ty) (N : Nat) : List Ty → List PV → Prop
 | [], [] => True
 | t :: ts, p :: ps => ArgB Γ N t p ∧ Q1ev Γ N ts ps
 | _, _ => False
section
variable {H : Type} {enc : TypeId × Value → H} {P : Program} {w : World} {base : Nat} {sp : Nat → Bool} {held : Bool} {Γ : Nat → Option Ty} {N : Nat}
theorem Qfv {n : Nat} {cs : List Value} (ih : ∀ (ty : Ty) (t : TypeId) (cs : List Value) (x : DataW H × List MemPlace), Qcj P Γ ty t = true → DataW.trod enc P w base sp held n t cs = some x → Light P t x.1 → CapD N x.1 → ∃ c, RepN w NoM NoD cs c ∧ Of Γ ty c ∧ CapL N c) :
  ∀ (fs : List Ty) (gs : List Field) (off : Nat) (ys : List (DataW H × List MemPlace)), Q111 P Γ fs gs off cs.length = true → ys.length = gs.length → (∀ (j : Nat) g, gs[j]? = some g → DataW.trod enc P w base sp held n g.type ((cs.drop g.offset).take (P.cellsOf g.type)) = ys[j]?) →
   (∀ (j : Nat) g y, gs[j]? = some g → ys[j]? = some y → Light P g.type y.1 ∧ CapD N y.1) → ∃ c, RepN w NoM NoD (cs.drop off) c ∧ OfL Γ fs c ∧ CapL N c
 | [], [], off, ys, hc, _, _, _ => by
  simp only [Q111] at hc
  have := Nat.eq_of_beq_eq_true hc
  refine ⟨[], ?_, .nil, fun p hp => absurd hp List.not_mem_nil⟩
  rw [this, List.drop_length]
  exact ⟨rfl, fun i v p h => by simp at h⟩
 | [], _ :: _, off, ys, hc, _, _, _ => by cases hc
 | _ :: _, [], off, ys, hc, _, _, _ => by cases hc
 | f :: fs, g :: gs, off, [], hc, hl, _, _ => by simp at hl
 | f :: fs, g :: gs, off, y :: ys, hc, hl, ht, hw => by
  simp only [Q111, Bool.and_eq_true] at hc
  have ho := Nat.eq_of_beq_eq_true hc.1.1
  have h0 := ht 0 g rfl
  simp only [List.getElem?_cons_zero] at h0
  obtain ⟨a, ha, hoa, hca⟩ := ih f g.type _ y hc.1.2 h0 (hw 0 g y rfl rfl).1 (hw 0 g y rfl rfl).2
  obtain ⟨b, hb, hob, hcb⟩ := Qfv ih fs gs (off + P.cellsOf g.type) ys hc.2 (by simpa using hl) (fun j g' hj => by have := ht (j + 1) g' (by simpa using hj); simpa using this) (fun j g' y' h1 h2 => hw (j + 1) g' y' (by simpa using h1) (by simpa using h2))
  refine ⟨a ++ b, ?_, .cons f fs a b hoa hob, fun p hp => (List.mem_append.1 hp).elim (hca p) (hcb p)⟩
  have : cs.drop off = (cs.drop off).take (P.cellsOf g.type) ++ cs.drop (off + P.cellsOf g.type) := by
   rw [← List.drop_drop]
   exact (List.take_append_drop _ _).symm
  rw [this]
  rw [ho] at ha
  exact ha.app hb
theorem Q1na (hΓ : TabOK P Γ) : ∀ (fuel : Nat) (ty : Ty) (t : TypeId) (cs : List Value) (x : DataW H × List MemPlace), Qcj P Γ ty t = true → DataW.trod enc P w base sp held fuel t cs = some x → Light P t x.1 → CapD N x.1 → ∃ c, RepN w NoM NoD cs c ∧ Of Γ ty c ∧ CapL N c := by
  intro fuel
  induction fuel with
  | zero => intro ty t cs x _ h; simp [DataW.trod] at h
  | succ n ih =>
    have core : ∀ (ty : Ty) (t : TypeId) (cs : List Value) (x : DataW H × List MemPlace), ty.named = false → Qcj P Γ ty t = true → DataW.trod enc P w base sp held (n + 1) t cs = some x → Light P t x.1 → CapD N x.1 → ∃ c, RepN w NoM NoD cs c ∧ Of Γ ty c ∧ CapL N c := by
      intro ty t cs x hn hc h hw hcd
      cases ty with
      | nm t' => cases hn
      | bool =>
        simp only [Qcj] at hc
        obtain ⟨b, rfl, rfl⟩ := DataW.trod_bool (Qe5 hc) h
        exact ⟨_, .one rfl (.bool _ _), .bool b, CapL.one (.bool b)⟩
      | int k =>
        simp only [Qcj] at hc
        obtain ⟨m, rfl, rfl, hwf⟩ := DataW.trod_int (Quj hc) h
        exact ⟨_, .one rfl (.int _ _ _), .int k m hwf, CapL.one (.int k m)⟩
      | str =>
        simp only [Qcj] at hc
        obtain ⟨s, rfl, rfl, hs⟩ := DataW.trod_string (Q8h hc) h
        refine ⟨_, .one rfl (.str _ _), .str s ?_, CapL.one (.str s (by cases hcd with | lit _ h => simpa using h _ rfl))⟩
        simp only [Light, DataW.weights, List.all_cons, Bool.and_eq_true, decide_eq_true_eq] at hw
        have := hw.1
        unfold reachBytes at this
        simpa using this
      | sl bytes e =>
        simp only [Qcj] at hc
        split at hc
        · rename_i te hu
          rw [Bool.and_eq_true, Bool.and_eq_true] at hc
          have hby := Nat.eq_of_beq_eq_true hc.1.1
          have hsz := Nat.le_of_ble_eq_true hc.1.2
          rcases DataW.trod_slice hu h with ⟨rfl, rfl⟩ | ⟨a, len, cap, elems, rest, n', hn', rfl, rfl, hb, hl, hm, hlen, hel, _, _⟩
          · refine ⟨[.sl []], .one rfl (.sl _ _ _ _ 0 [] 0 0 (fun _ _ => default) rfl (Nat.le_refl _) (Nat.zero_le _) (fun r hr => absurd hr List.not_mem_nil) (fun h => by omega) (fun j r hj => by simp at hj) (fun j r hj => by simp at hj)), .sl _ _ [] (by simp) (fun r hr => absurd hr List.not_mem_nil), CapL.one (.sl [] (Nat.zero_le _) (fun r hr => absurd hr List.not_mem_nil))⟩
          · have hnn : n' = n := by omega
            subst hnn
            simp only [Light, DataW.weights, hu, List.all_cons, List.all_append, Bool.and_eq_true, decide_eq_true_eq, List.length_map] at hw
            obtain ⟨hw1, hw2, _⟩ := hw
            have hlight := Q1ia hw2
            have hcap : elems.length ≤ N ∧ ∀ z ∈ elems, CapD N z.1 := by
              cases hcd with
              | slice _ _ h1 h2 => exact ⟨by simpa using h1, fun z hz => h2 _ (List.mem_map.2 ⟨z, hz, rfl⟩)⟩
            have each : ∀ i, i < len → ∃ r, (∃ ys, w.cells? base (a.add (i * P.cellsOf te)) (P.cellsOf te) = some ys ∧ RepN w NoM NoD ys r) ∧ Of Γ e r ∧ CapL N r := by
              intro i hi
              have h1 := hel i hi
              have hi' : i < elems.length := by omega
              rw [List.getElem?_eq_getElem hi'] at h1
              obtain ⟨ys, hy1, hy2⟩ := Option.bind_eq_some_iff.1 h1
              obtain ⟨r, hr, hor⟩ := ih e te ys _ hc.2 hy2 (hlight _ (List.mem_map.2 ⟨_, List.getElem_mem hi', rfl⟩)) (hcap.2 _ (List.getElem_mem hi'))
              exact ⟨r, ⟨ys, hy1, hr⟩, hor⟩
            obtain ⟨l, hll, hlq⟩ := Qnl len each
            have hcellsz : ∀ i ys, i < len → w.cells? base (a.add (i * P.cellsOf te)) (P.cellsOf te) = some ys → ys.length = P.cellsOf te ∧ ∀ j, j < P.cellsOf te → w.cell? ((a.add (i * P.cellsOf te)).add j) = ys[j]? := by
              intro i ys _ hy
              have := World.cells?_some hy
              exact ⟨this.2.1, this.2.2⟩
            have hspot : 0 < len → a = ⟨a.block, a.off, none⟩ := by
              intro hpos
              obtain ⟨r, ⟨ys, hy, hr⟩, _⟩ := each 0 hpos
              obtain ⟨hyl, hyc⟩ := hcellsz 0 ys hpos hy
              have h0 := hyc 0 (by omega)
              rw [List.getElem?_eq_getElem (by omega)] at h0
              simp only [Nat.zero_mul, Addr.add, if_true] at h0
              obtain ⟨b, o, s⟩ := a
              cases s with
              | none => rfl
              | some s =>
                simp only [World.cell?] at h0
                split at h0 <;> simp at h0
            have hadd : ∀ i j, 0 < len → (a.add (i * P.cellsOf te)).add j = ⟨a.block, a.off + i * P.cellsOf te + j, none⟩ := by
              intro i j hpos
              rw [hspot hpos]
              unfold Addr.add
              by_cases h1 : i * P.cellsOf te = 0 <;> by_cases h2 : j = 0 <;> simp [h1, h2]
            refine ⟨[.sl l], .one rfl (.sl _ (some a) len cap (P.cellsOf te) l a.block a.off (fun j i => (w.cell? ⟨a.block, a.off + j * P.cellsOf te + i, none⟩).getD default) hll hl hm ?_ (fun hp => congrArg some (hspot hp)) ?_ ?_), .sl bytes e l ?_ ?_, CapL.one (.sl l (by rw [hll]; omega) (fun r hr => by
              obtain ⟨i, hi⟩ := List.getElem?_of_mem hr
              exact (hlq i r hi).2.2))⟩
            · intro r hr
              obtain ⟨i, hi⟩ := List.getElem?_of_mem hr
              have hil := (List.getElem?_eq_some_iff.1 hi).1
              obtain ⟨⟨ys, hy, hrn⟩, _⟩ := hlq i r hi
              rw [← hrn.1]
              exact (hcellsz i ys (by omega) hy).1
            · intro j r hj i p hi
              have hjl := (List.getElem?_eq_some_iff.1 hj).1
              have hil := (List.getElem?_eq_some_iff.1 hi).1
              obtain ⟨⟨ys, hy, hrn⟩, _⟩ := hlq j r hj
              obtain ⟨hyl, hyc⟩ := hcellsz j ys (by omega) hy
              have hiy : i < ys.length := by rw [hrn.1]; exact hil
              have := hyc i (by omega)
              rw [hadd j i (by omega), List.getElem?_eq_getElem hiy] at this
              refine ⟨fun h => h, by rw [this]; rfl, ?_⟩
              rw [this]
              exact (hrn.2 i _ p (List.getElem?_eq_getElem hiy) hi).1
            · intro j r hj i p hi
              have hjl := (List.getElem?_eq_some_iff.1 hj).1
              have hil := (List.getElem?_eq_some_iff.1 hi).1
              obtain ⟨⟨ys, hy, hrn⟩, _⟩ := hlq j r hj
              obtain ⟨hyl, hyc⟩ := hcellsz j ys (by omega) hy
              have hiy : i < ys.length := by rw [hrn.1]; exact hil
              have := hyc i (by omega)
              rw [hadd j i (by omega), List.getElem?_eq_getElem hiy] at this
              rw [this]
              exact (hrn.2 i _ p (List.getElem?_eq_getElem hiy) hi).2
            · rw [← hby, hll]
              unfold reachBytes at hw1
              have : len * P.bytesOf te ≤ (elems.length + rest.length) * P.bytesOf te := Nat.mul_le_mul_right _ (by omega)
              omega
            · intro r hr
              obtain ⟨i, hi⟩ := List.getElem?_of_mem hr
              exact (hlq i r hi).2.1
        · cases hc
      | st fs =>
        simp only [Qcj] at hc
        split at hc
        · rename_i gs hu
          obtain ⟨xs, n', hn', rfl, hl, hxl, hx⟩ := DataW.trod_struct hu h
          have hnn : n' = n := by omega
          subst hnn
          rw [← hl] at hc
          simp only [Light, DataW.weights, hu] at hw
          have hlight := Q1am hw
          have hcap : ∀ z ∈ xs, CapD N z.1 := by
            cases hcd with
            | agg _ h => exact fun z hz => h _ (List.mem_map.2 ⟨z, hz, rfl⟩)
          obtain ⟨c, hr, ho, hcc⟩ := Qfv ih fs gs.toList 0 xs hc (by simpa using hxl) (fun j g hj => hx j g (by simpa using hj)) (fun j g y hj hy => ⟨hlight j g.type y.1 (by simp [hj]) (by simp [hy]), hcap y (List.mem_of_getElem? hy)⟩)
          exact ⟨c, by simpa using hr, .st fs c ho, hcc⟩
        · cases hc
    intro ty t cs x hc h hw hcd
    cases hty : ty.named with
    | false => exact core ty t cs x hty hc h hw hcd
    | true =>
      cases ty with
      | nm t' =>
        simp only [Qcj, Bool.and_eq_true] at hc
        have := Nat.eq_of_beq_eq_true hc.1
        subst this
        obtain ⟨ty', hty'⟩ := Option.isSome_iff_exists.1 hc.2
        obtain ⟨h1, h2⟩ := hΓ _ _ hty'
        obtain ⟨c, hr, ho, hcc⟩ := core ty' t' cs x h1 h2 h hw hcd
        exact ⟨c, hr, .nm t' ty' c hty' ho, hcc⟩
      | _ => cases hty
theorem Q1iw (hΓ : TabOK P Γ) {ty : Ty} {t : TypeId} (hc : Qcj P Γ ty t = true) (hs : (match P.underlying t with | some (.struct _) => ty.isSt Γ | some (.array _ _) => false | _ => !(ty.isSt Γ)) = true) {r : Reach} {b0 : Nat} {v : Value} {d : DataW H} {ps : List MemPlace} (hval : Value.okWide P w r b0 t v) (h : DataW.Trod enc P w base sp held t v d ps) (hw : Light P t d) (hcd : CapD N d) :
    ∃ p, Rep w NoM NoD v p ∧ ArgB Γ N ty p := by
  obtain ⟨fuel, hf⟩ := h
  obtain ⟨c, hr, ho, hcc⟩ := Q1na hΓ fuel ty t _ _ hc hf hw hcd
  unfold Value.okWide at hval
  split at hs
  · rename_i fs hu
    rw [hu] at hval
    obtain ⟨cs, rfl, _, _⟩ := hval
    refine ⟨.agg c, .agg _ cs c (by simpa [Value.cells] using hr.1) (fun i v p hv hp => (hr.2 i v p (by simpa [Value.cells] using hv) hp).1) (fun i v p hv hp => (hr.2 i v p (by simpa [Value.cells] using hv) hp).2), c, ho, hcc, ?_⟩
    rw [hs]
    rfl
  · cases hs
  · rename_i hn1 hn2
    have hcell : Cell.okWide P w r b0 t v := by
      split at hval
      · rename_i fs hu; exact absurd hu (hn1 fs)
      · rename_i k e hu; exact absurd hu (hn2 k e)
      · exact hval
    have hone : v.oneCell' = true := by
      cases v with
      | agg cs => unfold Cell.okWide Cell.ok at hcell; split at hcell <;> simp_all
      | tuple cs => unfold Cell.okWide Cell.ok at hcell; split at hcell <;> simp_all
      | _ => rfl
    have hcs : v.cells.toList = [v] := by cases v <;> first | rfl | (cases hone)
    rw [hcs] at hr
    have hlen := hr.1
    cases c with
    | nil => simp at hlen
    | cons p rest =>
      have : rest = [] := List.eq_nil_of_length_eq_zero (by simpa using hlen.symm)
      subst this
      refine ⟨p, (hr.2 0 v p rfl rfl).2, [p], ho, hcc, ?_⟩
      have : ty.isSt Γ = false := by simpa using hs
      rw [this]
      rfl
theorem open_args2 (hΓ : TabOK P Γ) {r : Reach} {b0 : Nat} : ∀ {tys : List Ty} {ts : List TypeId} {vs : List Value} {ds : List (DataW H)} {ps : List MemPlace}, chkArgs P Γ tys ts = true → (∀ (j : Nat) t v, ts[j]? = some t → vs[j]? = some v → Value.okWide P w r b0 t v) → DataW.TrodAll enc P w base sp held ts vs ds ps →
    (DataW.weightsEach P ts ds).all (· ≤ reachBytes) = true → (∀ d ∈ ds, CapD N d) → ∃ qs, RepL w NoM NoD vs qs ∧ Q1ev Γ N tys qs
  | [], [], vs, ds, ps, _, _, h, _, _ => by
    obtain ⟨rfl, rfl, rfl⟩ := ChangeShapes.trodAll_nil h
    exact ⟨[], RepL.nil _ _ _, trivial⟩
  | [], _ :: _, _, _, _, hc, _, _, _, _ => by cases hc
  | _ :: _, [], _, _, _, hc, _, _, _, _ => by cases hc
  | ty :: tys, t :: ts, vs, ds, ps, hc, hv, h, hw, hcd => by
    simp only [chkArgs, Bool.and_eq_true] at hc
    obtain ⟨v, vs', d, ds', p, q, rfl, rfl, rfl, h1, h2⟩ := ChangeShapes.trodAll_cons h
    simp only [DataW.weightsEach, List.all_append, Bool.and_eq_true] at hw
    obtain ⟨x, hx, hax⟩ := Q1iw hΓ hc.1.1.1.1 hc.1.1.1.2 (hv 0 t v rfl rfl) h1 hw.1 (hcd _ List.mem_cons_self)
    obtain ⟨qs, hq, haq⟩ := open_args2 hΓ hc.2 (fun j t' v' h1 h2 => hv (j + 1) t' v' (by simpa using h1) (by simpa using h2)) h2 hw.2 (fun d' hd' => hcd d' (List.mem_cons_of_mem _ hd'))
    exact ⟨x :: qs, RepL.cons hx hq, hax, haq⟩
end
theorem ArgB.one {Γ : Nat → Option Ty} {N : Nat} {ty : Ty} {p : PV} (h : ArgB Γ N ty p) (hs : ty.isSt Γ = false) : Of Γ ty [p] ∧ CapL N [p] := by
 obtain ⟨c, hc, hb, hp⟩ := h
 rw [hs] at hp
 have hp : c = [p] := hp
 subst hp
 exact ⟨hc, hb⟩
theorem ArgB.agg {Γ : Nat → Option Ty} {N : Nat} {ty : Ty} {p : PV} (h : ArgB Γ N ty p) (hs : ty.isSt Γ = true) : ∃ c, p = .agg c ∧ Of Γ ty c ∧ CapL N c := by
 obtain ⟨c, hc, hb, hp⟩ := h
 rw [hs] at hp
 exact ⟨c, hp, hc, hb⟩
theorem Cap.strI {N : Nat} {s : ByteArray} (h : Cap N (.str s)) : s.size ≤ N := by
 cases h with
 | str _ h => exact h
theorem Cap.slI {N : Nat} {l : List (List PV)} (h : Cap N (.sl l)) : l.length ≤ N ∧ ∀ r ∈ l, CapL N r := by
 cases h with
 | sl _ h hl => exact ⟨h, hl⟩
theorem Cap.Q7e {N : Nat} {α : Type} {f : α → List PV} {l : List α} (h : Cap N (.sl (l.map f))) : l.length ≤ N ∧ ∀ x ∈ l, CapL N (f x) := by
 obtain ⟨h1, h2⟩ := h.slI
 exact ⟨by simpa using h1, fun x hx => h2 _ (List.mem_map.2 ⟨x, hx, rfl⟩)⟩
theorem law_callsB {P : Program} {G : Nat → Option Fun} (hm : P.follows .mixedOrders = true) (hT : Tie P G) {Γ : Nat → Option Ty} {N : Nat} {tys : List Ty} {f : Nat} (hpure : ∀ qs, Q1ev Γ N tys qs → ∃ n, runs G n (.call f qs []) = some (.ret (.bool true) []))
    {W : World} {args : Array Value} (h : ∃ qs, RepL W NoM NoD args.toList qs ∧ Q1ev Γ N tys qs) : Calls P f args W fun e W' => e = .returned (.bool true) ∧ Below W.heap.size W W' := by
  obtain ⟨qs, hq, ha⟩ := h
  obtain ⟨n, hn⟩ := hpure qs ha
  obtain ⟨_, hok⟩ := (Quv hm hT n).1 f qs [] _ _ hn
  have hnoM : ∀ b o, Mut NoD (hF []) NoM b o → NoM b o := by
    rintro b o (h | ⟨id, ob, h1, _⟩)
    · exact h
    · simp [hF] at h1
  refine (hok W NoD NoM args ⟨fun b o h => h.elim, Nat.le_refl _, fun id b h => (by cases h), fun id ob h => (by simp [hF] at h), fun i j a b k h => (by simp [hF] at h), fun id ob b o h => (by simp [hF] at h)⟩ (fun _ _ => rfl) (hq.mono fun v p h => h.to (fun b o _ h => hnoM b o h) (fun _ _ h => h))).mono ?_
  rintro e W' ⟨v, D', rfl, _, hk, _, _, _, _, hr⟩
  cases hr with
  | bool _ _ =>
    refine ⟨rfl, (hk.mono (M1 := fun _ _ => False) ?_).below⟩
    rintro b o _ ⟨id, ob, h1, _⟩
    simp [hF] at h1
end Go.Pv
end

section
/- Comparisons that answer -1, 0 or 1; the order of strings. -/
namespace Go.Pv
def R3 (a : Int) : Prop := a = -1 ∨ a = 0 ∨ a = 1
def T3 (a b e : Int) : Prop := (a = 0 → e = b) ∧ (b = 0 → e = a) ∧ (a = b → e = a)
def lx (a b : Int) : Int := if a = 0 then b else a
def icmp (a b : Int) : Int := if a < b then -1 else if b < a then 1 else 0
theorem Q205 (a b : Int) : lx (-a) (-b) = -lx a b := by
 unfold lx
 split <;> split <;> omega
theorem Q2c0 {a b e a' b' e' : Int} (_ha : R3 a) (_hb : R3 b) (_he : R3 e) (t : T3 a b e) (t' : T3 a' b' e') : T3 (lx a a') (lx b b') (lx e e') := by
 unfold T3 at *
 unfold lx R3 at *
 split <;> split <;> split <;> omega
theorem Q146 (a b : Int) : R3 (icmp a b) := by
  unfold icmp R3
  split
  · omega
  · split <;> omega
theorem Q1n2 (a b : Int) : icmp b a = -icmp a b := by
 unfold icmp
 split <;> split <;> first | omega | (split <;> omega) | skip
 all_goals omega
theorem Q1rm (a b e : Int) : T3 (icmp a b) (icmp b e) (icmp a e) := by
 unfold T3 icmp
 split <;> split <;> split <;> (try split) <;> (try split) <;> (try split) <;> omega
theorem Q1i2 {a b : Int} : icmp a b = 0 ↔ a = b := by
  unfold icmp
  constructor
  · intro h
    split at h
    · omega
    · split at h <;> omega
  · intro h
    rw [if_neg (by omega), if_neg (by omega)]
theorem Q13w : ∀ a b : List UInt8, R3 (cmpL a b)
  | [], [] => Or.inr (Or.inl rfl)
  | [], _ :: _ => Or.inl rfl
  | _ :: _, [] => Or.inr (Or.inr rfl)
  | x :: a, y :: b => by
    rw [cmpL]
    split
    · exact Or.inl rfl
    · split
      · exact Or.inr (Or.inr rfl)
      · exact Q13w a b
theorem Q97 (x y : UInt8) (a b : List UInt8) : cmpL (x :: a) (y :: b) = lx (icmp (x.toNat : Int) (y.toNat : Int)) (cmpL a b) := by
  rw [cmpL]
  unfold lx icmp
  simp only [UInt8.lt_iff_toNat_lt]
  by_cases h1 : x.toNat < y.toNat
  · rw [if_pos h1, if_pos (show (x.toNat : Int) < (y.toNat : Int) by omega)]
    rfl
  · by_cases h2 : y.toNat < x.toNat
    · rw [if_neg h1, if_pos h2, if_neg (show ¬ (x.toNat : Int) < (y.toNat : Int) by omega), if_pos (show (y.toNat : Int) < (x.toNat : Int) by omega)]
      rfl
    · rw [if_neg h1, if_neg h2, if_neg (show ¬ (x.toNat : Int) < (y.toNat : Int) by omega), if_neg (show ¬ (y.toNat : Int) < (x.toNat : Int) by omega)]
      rfl
theorem Qxa : ∀ a b : List UInt8, cmpL b a = -cmpL a b
 | [], [] => rfl
 | [], _ :: _ => rfl
 | _ :: _, [] => rfl
 | x :: a, y :: b => by rw [Q97, Q97, Qxa a b, Q1n2 (x.toNat : Int) (y.toNat : Int), Q205]
theorem Q1hk : ∀ a b d : List UInt8, T3 (cmpL a b) (cmpL b d) (cmpL a d)
 | [], [], [] => by simp [T3, cmpL]
 | [], [], _ :: _ => by simp [T3, cmpL]
 | [], _ :: _, [] => by simp [T3, cmpL]
 | [], _ :: _, _ :: _ => by simp [T3, cmpL]
 | _ :: _, [], [] => by simp [T3, cmpL]
 | _ :: _, [], _ :: _ => by simp [T3, cmpL]
 | x :: a, y :: b, [] => by
  have h := Q13w (x :: a) (y :: b)
  unfold R3 at h
  unfold T3
  rw [show cmpL (y :: b) [] = 1 from rfl, show cmpL (x :: a) [] = 1 from rfl]
  omega
 | x :: a, y :: b, w :: d => by
  rw [Q97, Q97, Q97]
  exact Q2c0 (Q146 _ _) (Q146 _ _) (Q146 _ _) (Q1rm _ _ _) (Q1hk a b d)
theorem Q113 : ∀ a b : List UInt8, cmpL a b = 0 → a = b
  | [], [], _ => rfl
  | [], _ :: _, h => by simp [cmpL] at h
  | _ :: _, [], h => by simp [cmpL] at h
  | x :: a, y :: b, h => by
    rw [Q97] at h
    unfold lx at h
    split at h
    · rename_i e
      have := Q1i2.1 e
      rw [UInt8.toNat_inj.1 (show x.toNat = y.toNat by omega), Q113 a b h]
    · omega
theorem Q1hj (a : List UInt8) : cmpL a a = 0 := by
 have := Qxa a a
 omega
theorem Q187 : ∀ a b : List UInt8, Op.bytesLess a b = decide (cmpL a b < 0)
  | [], [] => rfl
  | [], _ :: _ => rfl
  | _ :: _, [] => rfl
  | x :: a, y :: b => by
    have ih := Q187 a b
    rw [Op.bytesLess, cmpL, ih]
    by_cases h : x < y
    · simp [h]
    · by_cases h2 : y < x
      · have h3 : ¬ x = y := fun e => h (e ▸ h2)
        simp [h, h2, h3]
      · have h3 : x = y := by
          rw [UInt8.lt_iff_toNat_lt] at h h2
          exact UInt8.toNat_inj.1 (by omega)
        simp [h3]
theorem Qol (a b : ByteArray) : R3 (sCmp a b) := Q13w _ _
theorem Q8m (a b : ByteArray) : sCmp b a = -sCmp a b := Qxa _ _
theorem Q1jq (a b d : ByteArray) : T3 (sCmp a b) (sCmp b d) (sCmp a d) := Q1hk _ _ _
theorem Q138 {a b : ByteArray} : sCmp a b = 0 ↔ a = b := ⟨fun h => toList_inj (Q113 _ _ h), fun h => by rw [h]; exact Q1hj _⟩
theorem Q1ry (a b : ByteArray) : sLt a b = decide (sCmp a b < 0) := Q187 _ _
end Go.Pv
end

section
/- The library's stable sort as plain functions on lists, and what it answers: the stably sorted list. Program-free. -/
namespace Go.Pv.Srt
section
variable {α : Type} (z : α) (c : α → α → Int)
def gt (d : List α) (i : Int) : α := d.getD i.toNat z
def sw (d : List α) (i j : Int) : List α := (d.set i.toNat (gt z d j)).set j.toNat (gt z d i)
def ins1 (a : Int) : Nat → List α → Int → List α
 | 0, v, _ => v
 | k + 1, v, j => bif decide (a < j) then (bif decide (c (gt z v j) (gt z v (j - 1)) < 0) then ins1 a k (sw z v j (j - 1)) (j - 1) else v) else v
def ins0 (a b : Int) : Nat → Int → List α → List α
 | 0, _, v => v
 | k + 1, i, v => bif decide (i < b) then ins0 a b k (i + 1) (ins1 z c a (i.toNat + 1) v i) else v
def ins (d : List α) (a b : Int) : List α := ins0 z c a b ((b - (a + 1)).toNat + 1) (a + 1) d
theorem Q1n0 {d A C : List α} {x : α} {i : Int} (hd : d = A ++ x :: C) (hi : i = (A.length : Int)) : gt z d i = x := by
 subst hd hi
 simp [gt]
theorem Q1pw {A C : List α} {x y : α} {i : Int} (hi : i = (A.length : Int)) : (A ++ x :: C).set i.toNat y = A ++ y :: C := by
 subst hi
 simp
theorem Q1s1 {A M C : List α} {x y : α} {i j : Int} (hi : i = (A.length : Int)) (hj : j = (A.length : Int) + 1 + (M.length : Int)) : sw z (A ++ x :: (M ++ y :: C)) j i = A ++ y :: (M ++ x :: C) := by
 have e1 : gt z (A ++ x :: (M ++ y :: C)) i = x := Q1n0 z rfl hi
 have e2 : gt z (A ++ x :: (M ++ y :: C)) j = y := Q1n0 z (A := A ++ x :: M) (C := C) (by simp) (by simp; omega)
 unfold sw
 rw [e1, e2]
 have e3 : A ++ x :: (M ++ y :: C) = (A ++ x :: M) ++ y :: C := by simp
 rw [e3, Q1pw (A := A ++ x :: M) (by simp; omega)]
 have e4 : (A ++ x :: M) ++ x :: C = A ++ x :: (M ++ x :: C) := by simp
 rw [e4, Q1pw hi]
def insR (x : α) : List α → List α
 | [] => [x]
 | s :: t => bif decide (c x s < 0) then s :: insR x t else x :: s :: t
def Qf4 (l : List α) : List α := (l.foldl (fun r x => insR c x r) []).reverse
theorem Q11e (a : Int) (A : List α) (x : α) (ha : a = (A.length : Int)) : ∀ (R C : List α) (k : Nat) (j : Int), j = (A.length : Int) + (R.length : Int) → R.length < k → ins1 z c a k (A ++ (R.reverse ++ x :: C)) j = A ++ ((insR c x R).reverse ++ C)
 | _, _, 0, _, _, h => absurd h (Nat.not_lt_zero _)
 | [], C, k + 1, j, hj, _ => by
  rw [ins1, show decide (a < j) = false by simp at hj ⊢; omega]
  simp [insR]
 | s :: t, C, k + 1, j, hj, hk => by
  simp only [List.length_cons] at hj hk
  have e0 : A ++ ((s :: t).reverse ++ x :: C) = (A ++ t.reverse) ++ s :: ([] ++ x :: C) := by simp
  rw [ins1, show decide (a < j) = true by simp; omega, cond_true, e0]
  have e1 : gt z ((A ++ t.reverse) ++ s :: ([] ++ x :: C)) j = x := Q1n0 z (A := A ++ t.reverse ++ [s]) (C := C) (by simp) (by simp; omega)
  have e2 : gt z ((A ++ t.reverse) ++ s :: ([] ++ x :: C)) (j - 1) = s := Q1n0 z (A := A ++ t.reverse) rfl (by simp; omega)
  rw [e1, e2, insR]
  cases decide (c x s < 0) with
  | true =>
   rw [cond_true, cond_true, Q1s1 z (by simp; omega) (by simp; omega)]
   have e3 : (A ++ t.reverse) ++ x :: ([] ++ s :: C) = A ++ (t.reverse ++ x :: (s :: C)) := by simp
   rw [e3, Q11e a A x ha t (s :: C) k (j - 1) (by omega) (by omega)]
   simp
  | false => simp
theorem Q11d (a b : Int) (A : List α) (ha : a = (A.length : Int)) : ∀ (M R C : List α) (k : Nat) (i : Int), i = (A.length : Int) + (R.length : Int) → b = i + (M.length : Int) → M.length < k →
  ins0 z c a b k i (A ++ (R.reverse ++ (M ++ C))) = A ++ ((M.foldl (fun r x => insR c x r) R).reverse ++ C)
 | _, _, _, 0, _, _, _, h => absurd h (Nat.not_lt_zero _)
 | [], R, C, k + 1, i, hi, hb, _ => by
  rw [ins0, show decide (i < b) = false by simp at hb ⊢; omega]
  simp
 | x :: M, R, C, k + 1, i, hi, hb, hk => by
  simp only [List.length_cons] at hb hk
  rw [ins0, show decide (i < b) = true by simp; omega, cond_true, List.cons_append, Q11e z c a A x ha R (M ++ C) _ i hi (by omega)]
  have hl : (insR c x R).length = R.length + 1 := by
   clear hi hb hk
   induction R with
   | nil => rfl
   | cons s t ih => rw [insR]; cases decide (c x s < 0) <;> simp [ih]
  rw [Q11d a b A ha M (insR c x R) C k (i + 1) (by omega) (by omega) (by omega)]
  rfl
theorem Qxm {d A M C : List α} {a b : Int} (hd : d = A ++ (M ++ C)) (ha : a = (A.length : Int)) (hb : b = a + (M.length : Int)) : ins z c d a b = A ++ (Qf4 c M ++ C) := by
 subst hd
 unfold ins Qf4
 cases M with
 | nil =>
  simp only [List.length_nil, Int.ofNat_zero] at hb
  rw [ins0, show decide (a + 1 < b) = false by simp; omega]
  rfl
 | cons x M =>
  simp only [List.length_cons] at hb
  have e : A ++ (x :: M ++ C) = A ++ ([x].reverse ++ (M ++ C)) := by simp
  rw [e, Q11d z c a b A ha M [x] C _ _ (by simp; omega) (by omega) (by omega)]
  rfl
end
end Go.Pv.Srt
end

section
/- The library's stable sort: its merging, and that it answers the stably sorted list. Program-free. -/
namespace Go.Pv.Srt
section
variable {α : Type} (z : α) (c : α → α → Int)
structure Tot : Prop where
  asym : ∀ x y, c x y < 0 → ¬ c y x < 0
  tr : ∀ x y w, ¬ c y x < 0 → ¬ c w y < 0 → ¬ c w x < 0
def le (x y : α) : Prop := ¬ c y x < 0
def Up (l : List α) : Prop := l.Pairwise (le c)
def eqv (x y : α) : Bool := decide (¬ c x y < 0) && decide (¬ c y x < 0)
def F (l r : List α) : Prop := l.length = r.length ∧ ∀ x, l.filter (eqv c x) = r.filter (eqv c x)
variable {c}
theorem F.rfl {l : List α} : F c l l := ⟨Eq.refl _, fun _ => Eq.refl _⟩
theorem F.trans {l r s : List α} (h : F c l r) (g : F c r s) : F c l s := ⟨h.1.trans g.1, fun x => (h.2 x).trans (g.2 x)⟩
theorem F.symm {l r : List α} (h : F c l r) : F c r l := ⟨h.1.symm, fun x => (h.2 x).symm⟩
theorem F.app {l r l' r' : List α} (h : F c l r) (g : F c l' r') : F c (l ++ l') (r ++ r') :=
 ⟨by rw [List.length_append, List.length_append, h.1, g.1], fun x => by rw [List.filter_append, List.filter_append, h.2 x, g.2 x]⟩
theorem Tot.refl (T : Tot c) (x : α) : ¬ c x x < 0 := fun h => T.asym x x h h
theorem Q1m0 (T : Tot c) (x : α) : eqv c x x = true := by simpa [eqv] using T.refl x
theorem F.mem (T : Tot c) {l r : List α} (h : F c l r) {x : α} (hx : x ∈ l) : x ∈ r := by
 have h1 : x ∈ l.filter (eqv c x) := List.mem_filter.2 ⟨hx, Q1m0 T x⟩
 rw [h.2 x] at h1
 exact (List.mem_filter.1 h1).1
theorem F.swap (T : Tot c) {A B : List α} (h : ∀ a ∈ A, ∀ b ∈ B, c b a < 0) : F c (A ++ B) (B ++ A) := by
  refine ⟨by simp [Nat.add_comm], fun x => ?_⟩
  rw [List.filter_append, List.filter_append]
  by_cases hA : A.filter (eqv c x) = []
  · rw [hA]
    simp
  · have hB : B.filter (eqv c x) = [] := by
      obtain ⟨a, ha⟩ := List.exists_mem_of_ne_nil _ hA
      obtain ⟨ha, hxa⟩ := List.mem_filter.1 ha
      refine List.filter_eq_nil_iff.2 fun b hb hxb => ?_
      simp only [eqv, Bool.and_eq_true, decide_eq_true_eq] at hxa hxb
      exact T.tr a x b hxa.1 hxb.2 (h a ha b hb)
    rw [hB]
    simp
theorem Q17t {x y : α} : ∀ {R : List α}, y ∈ insR c x R → y = x ∨ y ∈ R
  | [], h => by simpa [insR] using h
  | s :: t, h => by
    rw [insR] at h
    cases hd : decide (c x s < 0) with
    | true =>
      rw [hd, cond_true] at h
      rcases List.mem_cons.1 h with e | e
      · exact Or.inr (by simp [e])
      · rcases Q17t e with e | e
        · exact Or.inl e
        · exact Or.inr (List.mem_cons_of_mem _ e)
    | false =>
      rw [hd, cond_false] at h
      rcases List.mem_cons.1 h with e | e
      · exact Or.inl e
      · exact Or.inr e
theorem Q1i3 (T : Tot c) (x : α) : ∀ {R : List α}, R.Pairwise (fun a b => le c b a) → (insR c x R).Pairwise (fun a b => le c b a)
  | [], _ => by simp [insR]
  | s :: t, h => by
    have h' := List.pairwise_cons.1 h
    rw [insR]
    by_cases hd : c x s < 0
    · rw [show decide (c x s < 0) = true by simpa using hd, cond_true]
      refine List.pairwise_cons.2 ⟨fun y hy => ?_, Q1i3 T x h'.2⟩
      rcases Q17t hy with e | e
      · subst e
        exact T.asym _ _ hd
      · exact h'.1 y e
    · rw [show decide (c x s < 0) = false by simpa using hd, cond_false]
      refine List.pairwise_cons.2 ⟨fun y hy => ?_, h⟩
      rcases List.mem_cons.1 hy with e | e
      · subst e
        exact hd
      · exact T.tr y s x (h'.1 y e) hd
theorem Q1pn (T : Tot c) (x : α) : ∀ (R : List α), F c (R.reverse ++ [x]) (insR c x R).reverse
  | [] => F.rfl
  | s :: t => by
    rw [insR]
    by_cases hd : c x s < 0
    · rw [show decide (c x s < 0) = true by simpa using hd, cond_true, List.reverse_cons, List.reverse_cons, List.append_assoc]
      have h1 : F c ([s] ++ [x]) ([x] ++ [s]) := F.swap T (by simpa using hd)
      exact (F.rfl.app h1).trans (by rw [← List.append_assoc]; exact (Q1pn T x t).app F.rfl)
    · rw [show decide (c x s < 0) = false by simpa using hd, cond_false, List.reverse_cons (a := x)]
      exact F.rfl
theorem Q13z (T : Tot c) : ∀ (M R : List α), R.Pairwise (fun a b => le c b a) → (M.foldl (fun r x => insR c x r) R).Pairwise (fun a b => le c b a) ∧ F c (R.reverse ++ M) (M.foldl (fun r x => insR c x r) R).reverse
 | [], R, h => ⟨h, by simpa using F.rfl⟩
 | x :: M, R, h => by
  obtain ⟨h1, h2⟩ := Q13z T M (insR c x R) (Q1i3 T x h)
  refine ⟨h1, F.trans ?_ h2⟩
  have e : R.reverse ++ x :: M = (R.reverse ++ [x]) ++ M := by simp
  rw [e]
  exact (Q1pn T x R).app F.rfl
theorem Q17v (T : Tot c) (l : List α) : Up c (Qf4 c l) := by
 unfold Up Qf4
 rw [List.pairwise_reverse]
 exact (Q13z T l [] List.Pairwise.nil).1
theorem Q1i7 (T : Tot c) (l : List α) : F c l (Qf4 c l) := (Q13z T l [] List.Pairwise.nil).2
def bs (g : Int → Bool) : Nat → Int → Int → Int
 | 0, i, _ => i
 | k + 1, i, j => bif decide (i < j) then (bif g ((i + j) / 2) then bs g k ((i + j) / 2 + 1) j else bs g k i ((i + j) / 2)) else i
end
end Go.Pv.Srt
end

section
/- The library's stable sort: symmetric merging and the sort as a whole answer the stably sorted list. Program-free. -/
namespace Go.Pv.Srt
section
variable {α : Type} (z : α) (c : α → α → Int)
def st1 (d : List α) (a m b : Int) : Int := bs (fun h => decide (c (gt z d h) (gt z d a) < 0)) ((b - m).toNat + 1) m b
variable {c}
end
end Go.Pv.Srt
end

section
/- The library's stable sort: merging in general, blocks, the whole. Program-free. -/
namespace Go.Pv.Srt
section
variable {α : Type} (z : α) {c : α → α → Int}
end
end Go.Pv.Srt
end

section
/- The library's stable sort: blocks, and the whole: it answers what insertion answers. Program-free. -/
namespace Go.Pv.Srt
section
variable {α : Type} (z : α) (c : α → α → Int)
inductive Bl (s : Nat) : List α → Prop
  | last {l : List α} : l.length ≤ s → Up c l → Bl s l
  | cons {l r : List α} : l.length = s → Up c l → Bl s r → Bl s (l ++ r)
inductive Fu (s : Nat) : List α → Prop
  | nil : Fu s []
  | snoc {p l : List α} : Fu s p → l.length = s → Up c l → Fu s (p ++ l)
variable {c}
theorem Bl.one {s : Nat} {Q : List α} (h : Bl c s Q) (hl : Q.length ≤ s) : Up c Q := by
 cases h with
 | last _ h => exact h
 | cons h1 h2 h3 =>
  rename_i l r
  rw [List.length_append] at hl
  rw [List.length_eq_zero_iff.1 (show r.length = 0 by omega), List.append_nil]
  exact h2
theorem Bl.split {s : Nat} {Q : List α} (h : Bl c s Q) (hl : s < Q.length) : ∃ l r, Q = l ++ r ∧ l.length = s ∧ Up c l ∧ Bl c s r := by
 cases h with
 | last h _ => omega
 | cons h1 h2 h3 => exact ⟨_, _, rfl, h1, h2, h3⟩
end
end Go.Pv.Srt
end

section
/- Lists of fields: strictly sorted lists are known by their members; keeping the last field of each name of a sorted list; putting a field into a sorted list. -/
namespace Go.Pv
open Srt
theorem Q9g (a : ByteArray) : sCmp a a = 0 := Q138.2 rfl
theorem Q14s {a b d : ByteArray} (h : sCmp a b < 0) (g : sCmp b d < 0) : sCmp a d < 0 := by
 have t := Q1jq a b d
 have h1 := Qol a b
 have h2 := Qol b d
 unfold R3 at h1 h2
 unfold T3 at t
 omega
theorem Q1pv {a b : ByteArray} : sEq a b = false ↔ a ≠ b := by
 cases h : sEq a b with
 | true => simp [Q4u.1 h]
 | false => exact ⟨fun _ e => (by rw [Q4u.2 e] at h; cases h), fun _ => rfl⟩
theorem Qjt (a b : ByteArray) : sCmp a b < 0 ∨ a = b ∨ sCmp b a < 0 := by
  have h1 := Qol a b
  have h2 := Q8m a b
  have h3 : sCmp a b = 0 → a = b := Q138.1
  unfold R3 at h1
  by_cases e : sCmp a b = 0
  · exact .inr (.inl (h3 e))
  · omega
theorem Qc2 {α : Type} (f : α → ByteArray) : Tot (fun x y : α => sCmp (f x) (f y)) := by
  refine ⟨fun x y h => ?_, fun x y w h g => ?_⟩
  · rw [Q8m]
    omega
  · have t := Q1jq (f w) (f y) (f x)
    have h1 := Qol (f w) (f y)
    have h2 := Qol (f y) (f x)
    rw [Q8m] at h
    rw [Q8m] at g
    have h3 := Q8m (f w) (f y)
    have h4 := Q8m (f y) (f x)
    have h5 := Q8m (f y) (f w)
    have h6 := Q8m (f x) (f y)
    unfold R3 at h1 h2
    unfold T3 at t
    omega
abbrev nlt (x y : Fld) : Prop := sCmp x.name y.name < 0
def SS (l : List Fld) : Prop := l.Pairwise nlt
theorem SS.cons {x : Fld} {l : List Fld} : SS (x :: l) ↔ (∀ y ∈ l, nlt x y) ∧ SS l := List.pairwise_cons
theorem SS.nil : SS [] := List.Pairwise.nil
theorem Q14e (x : Fld) : ¬ nlt x x := by unfold nlt; rw [Q9g]; omega
theorem Q1px : ∀ {l r : List Fld}, SS l → SS r → (∀ f, f ∈ l ↔ f ∈ r) → l = r
  | [], [], _, _, _ => rfl
  | [], y :: r, _, _, h => by have := (h y).2 List.mem_cons_self; cases this
  | x :: l, [], _, _, h => by have := (h x).1 List.mem_cons_self; cases this
  | x :: l, y :: r, hl, hr, h => by
    obtain ⟨hx, hl'⟩ := SS.cons.1 hl
    obtain ⟨hy, hr'⟩ := SS.cons.1 hr
    have e : x = y := by
      rcases List.mem_cons.1 ((h x).1 List.mem_cons_self) with e | e
      · exact e
      · rcases List.mem_cons.1 ((h y).2 List.mem_cons_self) with e' | e'
        · exact e'.symm
        · exact absurd (Q14s (hx y e') (hy x e)) (Q14e x)
    subst e
    have k1 : ∀ f, f ∈ l → f ∈ r := fun f hf => by
      rcases List.mem_cons.1 ((h f).1 (List.mem_cons_of_mem _ hf)) with e | e
      · subst e; exact absurd (hx _ hf) (Q14e _)
      · exact e
    have k2 : ∀ f, f ∈ r → f ∈ l := fun f hf => by
      rcases List.mem_cons.1 ((h f).2 (List.mem_cons_of_mem _ hf)) with e | e
      · subst e; exact absurd (hy _ hf) (Q14e _)
      · exact e
    rw [Q1px hl' hr' fun f => ⟨k1 f, k2 f⟩]
theorem SS.filter {l : List Fld} (h : SS l) (p : Fld → Bool) : SS (l.filter p) := h.sublist List.filter_sublist
theorem SS.inj {l : List Fld} (h : SS l) {x y : Fld} (hx : x ∈ l) (hy : y ∈ l) (e : x.name = y.name) : x = y := by
  induction l with
  | nil => cases hx
  | cons z l ih =>
    obtain ⟨hz, hl⟩ := SS.cons.1 h
    rcases List.mem_cons.1 hx with e1 | hx' <;> rcases List.mem_cons.1 hy with e2 | hy'
    · rw [e1, e2]
    · subst e1; have := hz y hy'; unfold nlt at this; rw [e, Q9g] at this; omega
    · subst e2; have := hz x hx'; unfold nlt at this; rw [e, Q9g] at this; omega
    · exact ih hl hx' hy'
def lastOf (l : List Fld) (f : Fld) : Prop := (l.filter fun y => decide (y.name = f.name)).getLast? = some f
theorem Qf6 (f : Fld) : ¬ lastOf [] f := by simp [lastOf]
theorem Qcm (x f : Fld) (l : List Fld) : lastOf (x :: l) f ↔ lastOf l f ∨ (f = x ∧ ∀ y ∈ l, y.name ≠ x.name) := by
  unfold lastOf
  by_cases h : x.name = f.name
  · rw [List.filter_cons_of_pos (by simpa using h)]
    cases e : l.filter fun y => decide (y.name = f.name) with
    | nil =>
      have := List.filter_eq_nil_iff.1 e
      simp only [List.getLast?_singleton, Option.some.injEq, List.getLast?_nil, reduceCtorEq, false_or]
      exact ⟨fun g => ⟨g.symm, fun y hy => by have := this y hy; rw [h]; simpa using this⟩, fun g => g.1.symm⟩
    | cons a r =>
      rw [List.getLast?_cons_cons]
      refine ⟨.inl, fun g => ?_⟩
      rcases g with g | g
      · exact g
      · have : a ∈ l.filter fun y => decide (y.name = f.name) := by rw [e]; exact List.mem_cons_self
        obtain ⟨h1, h2⟩ := List.mem_filter.1 this
        exact absurd ((of_decide_eq_true h2).trans (by rw [g.1])) (g.2 a h1)
  · rw [List.filter_cons_of_neg (by simpa using h)]
    exact ⟨.inl, fun g => by
      rcases g with g | g
      · exact g
      · exact absurd (by rw [g.1]) h⟩
theorem Q1al {l : List Fld} {f : Fld} (h : lastOf l f) : f ∈ l := (List.mem_filter.1 (List.mem_of_getLast? h)).1
theorem Q1i8 {l : List Fld} (h : SS l) (f : Fld) : lastOf l f ↔ f ∈ l := by
 induction l with
 | nil => exact ⟨fun g => absurd g (Qf6 f), fun g => by cases g⟩
 | cons x l ih =>
  obtain ⟨hx, hl⟩ := SS.cons.1 h
  rw [Qcm, ih hl, List.mem_cons]
  exact ⟨fun g => g.elim .inr fun g => .inl g.1, fun g => g.elim (fun g => .inr ⟨g, fun y hy e => by have := hx y hy; unfold nlt at this; rw [e, Q9g] at this; omega⟩) .inl⟩
def lasts : List Fld → List Fld
 | [] => []
 | [x] => [x]
 | x :: y :: r => bif sEq y.name x.name then lasts (y :: r) else x :: lasts (y :: r)
abbrev cNm (x y : Fld) : Int := sCmp x.name y.name
theorem Q11g : ∀ (l : List Fld), Up cNm l → ∀ f, f ∈ lasts l ↔ lastOf l f
  | [], _, f => ⟨fun g => (by cases g), fun g => absurd g (Qf6 f)⟩
  | [x], _, f => by
    rw [Qcm]
    simp [lasts, Qf6]
  | x :: y :: r, h, f => by
    have h' := List.pairwise_cons.1 h
    have ih := Q11g (y :: r) h'.2 f
    rw [lasts, Qcm]
    cases e : sEq y.name x.name with
    | true =>
      rw [cond_true, ih]
      exact ⟨.inl, fun g => g.elim id fun g => absurd (Q4u.1 e) (g.2 y List.mem_cons_self)⟩
    | false =>
      rw [cond_false, List.mem_cons, ih]
      refine ⟨fun g => g.elim (fun g => .inr ⟨g, fun w hw hn => ?_⟩) .inl, fun g => g.elim .inr fun g => .inl g.1⟩
      have e := Q1pv.1 e
      rcases List.mem_cons.1 hw with rfl | hw
      · exact e hn
      · have h1 := (List.pairwise_cons.1 h'.2).1 w hw
        have h2 := h'.1 y List.mem_cons_self
        unfold le cNm at h1 h2
        rw [hn] at h1
        rcases Qjt x.name y.name with g | g | g
        · exact h1 g
        · exact e g.symm
        · exact h2 g
theorem Qe6 : ∀ (l : List Fld), (lasts l).Sublist l
 | [] => List.Sublist.slnil
 | [x] => List.Sublist.refl _
 | x :: y :: r => by
  rw [lasts]
  cases sEq y.name x.name with
  | true => exact (Qe6 (y :: r)).cons x
  | false => exact (Qe6 (y :: r)).cons_cons x
theorem Q1n5 (l : List Fld) (h : Up cNm l) : SS (lasts l) := by
  induction l with
  | nil => exact SS.nil
  | cons x l ih =>
    cases l with
    | nil => exact SS.cons.2 ⟨fun _ g => (by cases g), SS.nil⟩
    | cons y r =>
      have h' := List.pairwise_cons.1 h
      rw [lasts]
      cases e : sEq y.name x.name with
      | true => exact ih h'.2
      | false =>
        rw [cond_false]
        refine SS.cons.2 ⟨fun w hw => ?_, ih h'.2⟩
        have e := Q1pv.1 e
        have h2 := h'.1 y List.mem_cons_self
        unfold le cNm at h2
        have hxy : sCmp x.name y.name < 0 := by
          rcases Qjt x.name y.name with g | g | g
          · exact g
          · exact absurd g.symm e
          · exact absurd g h2
        rcases List.mem_cons.1 ((Qe6 _).mem hw) with rfl | hw
        · exact hxy
        · have h1 := (List.pairwise_cons.1 h'.2).1 w hw
          unfold le cNm at h1
          unfold nlt
          rcases Qjt y.name w.name with g | g | g
          · exact Q14s hxy g
          · rw [← g]; exact hxy
          · exact absurd g h1
theorem Q1zw (x y : Fld) : Srt.eqv cNm x y = decide (y.name = x.name) := by
  unfold Srt.eqv cNm
  have h1 : (y.name = x.name) ↔ (¬ sCmp x.name y.name < 0 ∧ ¬ sCmp y.name x.name < 0) := by
    constructor
    · intro e; rw [e, Q9g]; omega
    · intro ⟨g1, g2⟩
      rcases Qjt x.name y.name with g | g | g
      · exact absurd g g1
      · exact g.symm
      · exact absurd g g2
  rw [← Bool.decide_and]
  exact decide_eq_decide.2 h1.symm
theorem Q1n4 {l r : List Fld} (h : F cNm l r) (f : Fld) : lastOf l f ↔ lastOf r f := by
 have := h.2 f
 unfold lastOf
 rw [show (fun y : Fld => decide (y.name = f.name)) = Srt.eqv cNm f from funext fun y => (Q1zw f y).symm, this]
def mapOf (l : List Fld) : List Fld := lasts (Qf4 cNm l)
theorem Q1n7 (l : List Fld) : SS (mapOf l) := Q1n5 _ (Q17v (Qc2 Fld.name) l)
theorem Q12u (l : List Fld) (f : Fld) : f ∈ mapOf l ↔ lastOf l f := by
 unfold mapOf
 rw [Q11g _ (Q17v (Qc2 Fld.name) l)]
 exact (Q1n4 (Q1i7 (Qc2 Fld.name) l) f).symm
theorem Q14d {l : List Fld} (h : SS l) : mapOf l = l := Q1px (Q1n7 l) h fun f => by rw [Q12u, Q1i8 h]
theorem Qo1 {α : Type} (c : α → α → Int) (T : Tot c) (l : List α) : (Qf4 c l).length = l.length := (Q1i7 T l).1.symm
theorem Q1ig (l : List Fld) : (mapOf l).length ≤ l.length := Nat.le_trans (Qe6 _).length_le (Nat.le_of_eq (Qo1 _ (Qc2 Fld.name) l))
theorem Q1ii {l : List Fld} {f : Fld} (h : f ∈ mapOf l) : f ∈ l := Q1al ((Q12u l f).1 h)
end Go.Pv
end

section
/- How many dF a value holds; what that bounds. -/
namespace Go.Pv
open Srt
end Go.Pv
end

section
/- Structures as dF: the parts of a map, their kinds; what decodes what was encoded. No program is in sight here. -/
namespace Go.Pv
abbrev vZ : Val := .mk 0 0 (⟨#[]⟩ : ByteArray) [] []
abbrev vN (n : Int) : Val := .mk 2 n (⟨#[]⟩ : ByteArray) [] []
abbrev vS (s : ByteArray) : Val := .mk 3 0 s [] []
abbrev vB (b : Bool) : Val := .mk 1 (bif b then 1 else 0) (⟨#[]⟩ : ByteArray) [] []
abbrev vL (l : List Val) : Val := .mk 4 0 (⟨#[]⟩ : ByteArray) l []
abbrev vM (l : List Fld) : Val := .mk 5 0 (⟨#[]⟩ : ByteArray) [] l
def Q1ao (n : ByteArray) : List Fld → Val
 | [] => vZ
 | x :: r => bif sEq x.name n then x.v else Q1ao n r
def prt (v : Val) (n : ByteArray) : Val := bif v.kind == 5 then Q1ao n v.fields else vZ
def isM (v : Val) : Bool := v.kind == 5 || v.kind == 0
def xN (x : Val) : Int × Bool := bif x.kind == 2 then (x.n, true) else (0, x.kind == 0)
def xS (x : Val) : ByteArray × Bool := bif x.kind == 3 then (x.s, true) else ((⟨#[]⟩ : ByteArray), x.kind == 0)
def xB (x : Val) : Bool × Bool := bif x.kind == 1 then (!(x.n == 0), true) else (false, x.kind == 0)
def xL (x : Val) : List Val × Bool := bif x.kind == 4 then (x.list, true) else ([], x.kind == 0)
def xE {α : Type} (f : Val → α × Bool) (x : Val) : List α × Bool := ((xL x).1.map fun y => (f y).1, (xL x).2 && (xL x).1.all fun y => (f y).2)
abbrev dN (v : Val) (n : ByteArray) : Int × Bool := xN (prt v n)
abbrev dS (v : Val) (n : ByteArray) : ByteArray × Bool := xS (prt v n)
abbrev dB (v : Val) (n : ByteArray) : Bool × Bool := xB (prt v n)
abbrev dL (v : Val) (n : ByteArray) : List Val × Bool := xL (prt v n)
abbrev dE {α : Type} (f : Val → α × Bool) (v : Val) (n : ByteArray) : List α × Bool := xE f (prt v n)
abbrev dT {α : Type} (f : Val → α × Bool) (v : Val) (n : ByteArray) : α × Bool := f (prt v n)
theorem Qof {v : Val} (h : (v.kind == 5) = false) (n : ByteArray) : prt v n = vZ := by unfold prt; rw [h]; rfl
theorem Q1i6 {v : Val} (h : (v.kind == 5) = true) : isM v = true := by unfold isM; rw [h]; rfl
theorem Qo0 {v : Val} (h : (v.kind == 5) = false) : isM v = (v.kind == 0) := by unfold isM; rw [h]; rfl
theorem xB_b (b : Bool) : xB (vB b) = (b, true) := by cases b <;> rfl
theorem Q5q {α : Type} {f : Val → α × Bool} {e : α → Val} (h : ∀ y, f (e y) = (y, true)) (l : List α) : xE f (vL (l.map e)) = (l, true) := by
 have h1 : ∀ l : List α, (l.map e).map (fun y => (f y).1) = l := by
  intro l
  induction l with
  | nil => rfl
  | cons y l ih => rw [List.map_cons, List.map_cons, ih, h y]
 have h2 : ∀ l : List α, ((l.map e).all fun y => (f y).2) = true := by
  intro l
  induction l with
  | nil => rfl
  | cons y l ih => rw [List.map_cons, List.all_cons, ih, h y]; rfl
 show ((l.map e).map (fun y => (f y).1), true && (l.map e).all fun y => (f y).2) = _
 rw [h1, h2]
 rfl
abbrev sB : Nat := 1000000000
theorem Q20t : Val.Sm sB vZ := Val.Sm.leaf 0 0 _
theorem Q2cx {l : List Val} (h : l.length ≤ sB) (g : ∀ x ∈ l, Val.Sm sB x) : Val.Sm sB (vL l) := .mk _ h (Nat.zero_le _) g (fun _ h => by cases h)
theorem Q9j {l : List Fld} (h : l.length ≤ sB) (g : ∀ x ∈ l, Val.Sm sB x.v) : Val.Sm sB (vM l) := .mk _ (Nat.zero_le _) h (fun _ h => by cases h) g
theorem Q1ke {B : Nat} (n : ByteArray) : ∀ {l : List Fld}, (∀ x ∈ l, Val.Sm B x.v) → Val.Sm B (Q1ao n l)
 | [], _ => Val.Sm.leaf 0 0 _
 | x :: l, h => by
  unfold Q1ao
  cases sEq x.name n with
  | true => exact h x List.mem_cons_self
  | false => exact Q1ke n fun y hy => h y (List.mem_cons_of_mem _ hy)
theorem Q3d {B : Nat} {v : Val} (h : Val.Sm B v) (n : ByteArray) : Val.Sm B (prt v n) := by
 unfold prt
 cases v.kind == 5 with
 | true => exact Q1ke n h.all.2.2.2
 | false => exact Val.Sm.leaf 0 0 _
def LSm {α : Type} (p : α → Prop) (l : List α) : Prop := l.length ≤ sB ∧ ∀ x ∈ l, p x
theorem LSm.leaf {α : Type} {l : List α} (h : l.length ≤ sB) : LSm (fun _ => True) l := ⟨h, fun _ _ => trivial⟩
theorem LSm.nil {α : Type} {p : α → Prop} : LSm p [] := ⟨Nat.zero_le _, fun _ h => by cases h⟩
theorem Qeh {x : Val} (h : Val.Sm sB x) : (xL x).1.length ≤ sB ∧ ∀ y ∈ (xL x).1, Val.Sm sB y := by
 unfold xL
 cases x.kind == 4 with
 | true => exact ⟨h.all.1, h.all.2.2.1⟩
 | false => exact ⟨Nat.zero_le _, fun _ h => by cases h⟩
theorem Q2r {α : Type} {e : α → Val} {p : α → Prop} (he : ∀ x, p x → Val.Sm sB (e x)) {l : List α} (h : LSm p l) : Val.Sm sB (vL (l.map e)) :=
 Q2cx (by rw [List.length_map]; exact h.1) fun z hz => by
  obtain ⟨x, hx, rfl⟩ := List.mem_map.1 hz
  exact he x (h.2 x hx)
def ssb : List Fld → Bool
 | [] => true
 | [_] => true
 | x :: y :: r => decide (sCmp x.name y.name < 0) && ssb (y :: r)
theorem Q1py : ∀ {l : List Fld}, ssb l = true → SS l
  | [], _ => SS.nil
  | [x], _ => SS.cons.2 ⟨(fun _ h => by cases h), SS.nil⟩
  | x :: y :: r, h => by
    unfold ssb at h
    rw [Bool.and_eq_true] at h
    have h1 := of_decide_eq_true h.1
    have h2 := Q1py h.2
    refine SS.cons.2 ⟨fun z hz => ?_, h2⟩
    rcases List.mem_cons.1 hz with rfl | hz
    · exact h1
    · exact Q14s h1 ((SS.cons.1 h2).1 z hz)
theorem Q1ih {l : List Fld} (h : ssb l = true) : mapOf l = l := Q14d (Q1py h)
def s5 (x : Val) : Val := bif x.kind == 5 then x else vZ
theorem Qoq {x : Val} (h : Val.Sm sB x) : Val.Sm sB (s5 x) := by
 unfold s5
 cases x.kind == 5 with
 | true => exact h
 | false => exact Q20t
theorem Q16z {α : Type} {f : Val → α × Bool} (hn : ∀ v, (v.kind == 5) = false → f v = ((f vZ).1, v.kind == 0)) (hz : (f vZ).2 = true) (x : Val) : (f (s5 x)).1 = (f x).1 ∧ (f x).2 = (isM x && (f (s5 x)).2) := by
 unfold s5
 cases h : x.kind == 5 with
 | true => exact ⟨rfl, by rw [Q1i6 h, cond_true, Bool.true_and]⟩
 | false => rw [hn x h, cond_false, Qo0 h, hz]; exact ⟨rfl, by rw [Bool.and_true]⟩
end Go.Pv
end

section
/- Decoders that count what is of a dD kind: counters, and when they stay. No program is in sight here. -/
namespace Go.Pv
def bw (w : Int) (n : Nat) : Int := bif n == 0 then w else w64 (w + (n : Int))
theorem Q1w1 (x y : Int) : w64 (w64 x + y) = w64 (x + y) := by
 unfold w64 IntKind.wrap
 simp [IntKind.signed, IntKind.bits]
 omega
theorem Qnj (w : Int) (a b : Nat) : bw (bw w a) b = bw w (a + b) := by
 unfold bw
 cases ha : (a == 0) with
 | true =>
  have := eq_of_beq ha
  subst this
  rw [Nat.zero_add]
  rfl
 | false =>
  have ha' := beq_eq_false_iff_ne.1 ha
  cases hb : (b == 0) with
  | true =>
   have := eq_of_beq hb
   subst this
   rw [Nat.add_zero, ha]
   rfl
  | false =>
   rw [show (a + b == 0) = false from beq_eq_false_iff_ne.2 (by omega), cond_false, cond_false, cond_false, Q1w1]
   congr 1
   omega
theorem Q1zt {n : Nat} (h : n ≤ 4611686018427387904) : decide (0 < bw 0 n) = !(n == 0) := by
 unfold bw
 cases hn : (n == 0) with
 | true => rfl
 | false =>
  have := beq_eq_false_iff_ne.1 hn
  rw [cond_false, Q13h (by omega)]
  simp
  omega
def nb (b : Bool) : Nat := bif b then 0 else 1
theorem nb0 (b : Bool) : (nb b == 0) = b := by cases b <;> rfl
theorem Q1c6 (b : Bool) : nb b ≤ 1 := by cases b <;> exact Nat.le_of_ble_eq_true rfl
theorem add0 (a b : Nat) : (a + b == 0) = (a == 0 && b == 0) := by
 cases a with
 | zero => rw [Nat.zero_add]; rfl
 | succ a => rw [show (a + 1 + b == 0) = false from beq_eq_false_iff_ne.2 (by omega)]; rfl
def cK (k : Int) (x : Val) : Nat := nb (x.kind == k || x.kind == 0)
def cM (v : Val) : Nat := cK 5 v
theorem cM0 (v : Val) : (cM v == 0) = isM v := nb0 _
def pK (k : Int) (v : Val) (n : ByteArray) : Nat := cM v + cK k (prt v n)
theorem kN (x : Val) : (cK 2 x == 0) = (xN x).2 := by unfold cK xN; rw [nb0]; cases (x.kind == 2) <;> rfl
theorem kS (x : Val) : (cK 3 x == 0) = (xS x).2 := by unfold cK xS; rw [nb0]; cases (x.kind == 3) <;> rfl
theorem kB (x : Val) : (cK 1 x == 0) = (xB x).2 := by unfold cK xB; rw [nb0]; cases (x.kind == 1) <;> rfl
theorem kL (x : Val) : (cK 4 x == 0) = (xL x).2 := by unfold cK xL; rw [nb0]; cases (x.kind == 4) <;> rfl
theorem pN0 (v : Val) (n : ByteArray) : (pK 2 v n == 0) = (isM v && (dN v n).2) := by unfold pK; rw [add0, cM0, kN]
theorem pS0 (v : Val) (n : ByteArray) : (pK 3 v n == 0) = (isM v && (dS v n).2) := by unfold pK; rw [add0, cM0, kS]
theorem pB0 (v : Val) (n : ByteArray) : (pK 1 v n == 0) = (isM v && (dB v n).2) := by unfold pK; rw [add0, cM0, kB]
theorem Qdp (k : Int) (x : Val) : cK k x ≤ 1 := Q1c6 _
theorem Q4l (k : Int) (v : Val) (n : ByteArray) : pK k v n ≤ 2 := by have := Qdp 5 v; have := Qdp k (prt v n); unfold pK cM; omega
def sumC (c : Val → Nat) : List Val → Nat
 | [] => 0
 | x :: r => c x + sumC c r
theorem Q20u {c : Val → Nat} {p : Val → Bool} (h : ∀ x, (c x == 0) = p x) : ∀ l : List Val, (sumC c l == 0) = l.all p
 | [] => rfl
 | x :: l => by rw [sumC, add0, h, Q20u h l, List.all_cons]
theorem Q1kg {c : Val → Nat} {K B : Nat} {P : Val → Prop} (hc : ∀ x, P x → c x ≤ K) : ∀ {l : List Val}, (∀ x ∈ l, P x) → l.length ≤ B → sumC c l ≤ B * K
 | [], _, _ => Nat.zero_le _
 | x :: l, h, hl => by
  cases B with
  | zero => simp at hl
  | succ B =>
   have h1 := hc x (h x List.mem_cons_self)
   have h2 := Q1kg (B := B) hc (fun y hy => h y (List.mem_cons_of_mem _ hy)) (by simp at hl; omega)
   rw [sumC, Nat.succ_mul]
   omega
def pE (c : Val → Nat) (v : Val) (n : ByteArray) : Nat := pK 4 v n + sumC c (dL v n).1
theorem pE0 {α : Type} {f : Val → α × Bool} {c : Val → Nat} (h : ∀ x, (c x == 0) = (f x).2) (v : Val) (n : ByteArray) : (pE c v n == 0) = (isM v && (dE f v n).2) := by
 unfold pE pK
 rw [add0, add0, cM0, kL, Q20u h, Bool.and_assoc]
 rfl
theorem Q22q {B : Nat} {x : Val} (h : Val.Sm B x) : (xL x).1.length ≤ B ∧ ∀ y ∈ (xL x).1, Val.Sm B y := by
 unfold xL
 cases x.kind == 4 with
 | true => exact ⟨h.all.1, h.all.2.2.1⟩
 | false => exact ⟨Nat.zero_le _, fun _ h => by cases h⟩
theorem Q130 {c : Val → Nat} {B K : Nat} (hc : ∀ x, Val.Sm B x → c x ≤ K) {v : Val} (h : Val.Sm B v) (n : ByteArray) : pE c v n ≤ 2 + B * K := by
 have hx := Q22q (Q3d h n)
 have h1 := Q1kg hc hx.2 hx.1
 have h2 := Q4l 4 v n
 change pK 4 v n + sumC c (xL (prt v n)).1 ≤ _
 omega
theorem Q1jr (s : ByteArray) : sLt s s = false := by rw [Q1ry, Q9g]; rfl
theorem and_tt {a b : Bool} (h : a = true) (k : b = true) : (a && b) = true := by rw [h, k]; rfl
theorem Q209 {a b : Bool} (h : b = true) : (a || b) = true := by rw [h, Bool.or_true]
theorem Q65 {α : Type} {G : Nat → Option Fun} {c : α → En} {r : Rs} {x y : α} (h : x = y) (t : Q0 G (c x) r) : Q0 G (c y) r := h ▸ t
def resC {α : Type} (n : Nat) (x z : α) : α × Int := bif decide (0 < bw 0 n) then (z, 6) else (x, 0)
theorem Qya {α : Type} {n : Nat} (h : n ≤ 4611686018427387904) (x z : α) : resC n x z = bif n == 0 then (x, 0) else (z, 6) := by
 unfold resC
 rw [Q1zt h]
 cases (n == 0) <;> rfl
end Go.Pv
end

section
/- Small dF; equality of what is the same (printed by a program). -/
namespace Go.Proofs.YtimjjohlpnkacaaGreat
open Go.Pv
abbrev G : Nat → Option Fun := tabG Ir.table
abbrev Γ : Nat → Option Ty := gam 51
abbrev BA : Type := ByteArray
theorem Q1o3 (a b : BA) : Q0 G (.call 221 [.str a, .str b] []) (.ret (iN (sCmp a b)) []) := ⟨1, by kernel_rfl⟩
inductive Qx2 where
  | k0 (q0 : Int)
  | k1
mutual
def Qg9 (p0 : Val) (p1 : Int) (p2 : Int) : Int :=
 bif (decide (p1 ≤ 0)) then
  (-1)
 else
  bif (decide (p2 ≤ 0)) then
   (-1)
  else
   bif (decide (1000 < (ByteArray.size p0.s : Int))) then
    (-1)
   else
    (match (Q4r p0 p2 p0.fields 0 (Q4c p0 p2 p0.list 0 (w64 (p1 - 1)))) with
    | .k0 jh => jh
    | .k1 => (-1))
termination_by SizeOf.sizeOf p0
decreasing_by all_goals first | exact Val.Q14c _ | exact Val.Qo8 _
def Q4c (p0 : Val) (p2 : Int) : List Val → Nat → Int → Int
 | [], _i0, ah =>
  ah
 | x0 :: r0, i0, ah =>
  bif (decide (0 ≤ ah)) then
   Q4c p0 p2 r0 (i0 + 1) (Qg9 x0 ah (w64 (p2 - 1)))
  else
   ah
termination_by l => SizeOf.sizeOf l
decreasing_by all_goals first | exact Q14b _ _ | exact Q1if _ _ | exact Q18k _ _
def Q4r (p0 : Val) (p2 : Int) : List Fld → Nat → Int → Qx2
 | [], _i1, bq =>
  (.k0 bq)
 | x1 :: r1, i1, bq =>
  bif (decide (0 ≤ bq)) then
   bif (decide (1000 < (ByteArray.size x1.name : Int))) then
    (.k1)
   else
    Q4r p0 p2 r1 (i1 + 1) (Qg9 x1.v bq (w64 (p2 - 1)))
  else
   (.k0 bq)
termination_by l => SizeOf.sizeOf l
decreasing_by all_goals first | exact Q14b _ _ | exact Q1if _ _ | exact Q18k _ _
end
def Q1f8 (_p0 : Val) (p2 : Int) (i0 : Nat) (ah : Int) : List PV :=
  [.un, iN ah, iN p2, .bx 0 0, .un, .un, .un, iN (i0 : Int)] ++ nuns 65
def Q1gd (p0 : Val) (_p2 : Int) (_i0 : Nat) (_ah : Int) : List Ob :=
  [⟨5, 0, true, (Val.cells p0)⟩]
def Qcz (p0 : Val) (p2 : Int) (i0 : Nat) (ah : Int) : En := .loop 0 Ir.Qkk Ir.Q1oi (Q1f8 p0 p2 i0 ah) (Q1gd p0 p2 i0 ah)
def Qez (p0 : Val) (p2 : Int) (q0 : Int) (z : Nat → PV) (_zo : Nat → List PV) : St :=
  ⟨[z 0, iN q0, iN p2, .bx 0 0] ++ zr z 4 69, [(0, ⟨5, 0, true, (Val.cells p0)⟩)], 577⟩
def Qdg (p0 : Val) (p2 : Int) (e : En) (q : Int) : Prop := ∃ z zo, Q0 G e (.st (.exit 0) (Qez p0 p2 q z zo))
theorem Qvs (p0 : Val) (p2 : Int) {e e' : En} (h : ∀ r, Q0 G e r → Q0 G e' r) : ∀ q, Qdg p0 p2 e q → Qdg p0 p2 e' q
  | _, ⟨z, zo, hz⟩ => ⟨z, zo, h _ hz⟩
def Q1f9 (_p0 : Val) (p2 : Int) (i1 : Nat) (bq : Int) : List PV :=
  [.un, iN bq, iN p2, .bx 0 0, .un, .un, .un, .un, iN (i1 : Int)] ++ nuns 64
def Q1ge (p0 : Val) (_p2 : Int) (_i1 : Nat) (_bq : Int) : List Ob :=
  [⟨5, 0, true, (Val.cells p0)⟩]
def Qbf (p0 : Val) (p2 : Int) (i1 : Nat) (bq : Int) : En := .loop 0 Ir.Qkl Ir.Q1oj (Q1f9 p0 p2 i1 bq) (Q1ge p0 p2 i1 bq)
def Qf0 (p0 : Val) (_p2 : Int) (q0 : Int) (z : Nat → PV) (_zo : Nat → List PV) : St :=
  ⟨[z 0, iN q0] ++ zr z 2 71, [(0, ⟨5, 0, true, (Val.cells p0)⟩)], 577⟩
def Qqx (_p0 : Val) (_p2 : Int) (z : Nat → PV) (zo : Nat → List PV) : St :=
  ⟨zr z 0 6 ++ [iN (-1)] ++ zr z 7 66, [(0, ⟨5, 0, true, zo 0⟩)], 1153⟩
def Qbn (p0 : Val) (p2 : Int) (e : En) : Qx2 → Prop
  | .k0 q0 => ∃ z zo, Q0 G e (.st (.exit 2) (Qf0 p0 p2 q0 z zo))
  | .k1 => ∃ z zo, Q0 G e (.st .ret (Qqx p0 p2 z zo))
theorem Qvt (p0 : Val) (p2 : Int) {e e' : En} (h : ∀ r, Q0 G e r → Q0 G e' r) : ∀ q, Qbn p0 p2 e q → Qbn p0 p2 e' q
  | .k0 _, ⟨z, zo, hz⟩ => ⟨z, zo, h _ hz⟩
  | .k1, ⟨z, zo, hz⟩ => ⟨z, zo, h _ hz⟩
def Q1lu (p0 : Val) (p1 : Int) (p2 : Int) : En := .call 170 [.agg (Val.cells p0), iN p1, iN p2] []
def Q1hb (p0 : Val) (p1 : Int) (p2 : Int) : Rs := .ret (iN (Qg9 p0 p1 p2)) []
abbrev Qzz (p0 : Val) : Prop := Val.Sm 4611686018427387904 p0
def Q8q (p0 : Val) : Prop := ∀ (q : Val), SizeOf.sizeOf q < SizeOf.sizeOf p0 → ∀ (p1 : Int), ∀ (p2 : Int), Qzz q → Q0 G (Q1lu q p1 p2) (Q1hb q p1 p2)
def Qbi (p0 : Val) (_p2 : Int) : Prop := (List.length p0.list ≤ 4611686018427387904) ∧ (∀ x0 ∈ p0.list, Qzz x0) ∧ True
def Q9s (p0 : Val) (_p2 : Int) : Prop := (List.length p0.fields ≤ 4611686018427387904) ∧ (∀ x1 ∈ p0.fields, Qzz x1.v) ∧ True
theorem Q17c (p0 : Val) (_p1 : Int) (p2 : Int) (H : Qzz p0) : (Qbi p0 p2) ∧ (Q9s p0 p2) ∧ True := by
  obtain ⟨h1, h2, h3, h4⟩ := H.all
  simp only [Qbi, Q9s]
  exact ⟨⟨h1, h3, trivial⟩, ⟨h2, h4, trivial⟩, trivial⟩
def Qsk (p0 : Val) (_p2 : Int) (i0 : Nat) (_ah : Int) : List PV :=
  nuns 7 ++ [iN (i0 : Int)] ++ nuns 15 ++ [iN (i0 : Int), .bx 0 3, .sl (Val.rows p0.list), iN ((List.length p0.list) : Int), .bool false, .bool false, .tup [], .tup [], .bool false]
def Qma (_p0 : Val) (_p2 : Int) (_i0 : Nat) (_ah : Int) : List (Nat × List PV) :=
  []
theorem Q1dm (p0 : Val) (p2 : Int) (_H : Qbi p0 p2) (_rec : Q8q p0) (i0 : Nat) (ah : Int) (bG : (decide ((i0 : Int) < ((List.length p0.list) : Int))) = false) : Qdg p0 p2 (Qcz p0 p2 i0 ah) ah := by
 exact ⟨(envF (Qsk p0 p2 i0 ah)), (zoF (Qma p0 p2 i0 ah)), Qd VOK.nil (x := ((.exit 0), Qez p0 p2 ah (envF (Qsk p0 p2 i0 ah)) (zoF (Qma p0 p2 i0 ah)))) [hP 3 (Qw _ _ (Val.Q8 p0.list)), hB 0 bG] [] (by kernel_rfl)⟩
theorem Q1b1 (p0 : Val) (p2 : Int) (H : Qbi p0 p2) (rec : Q8q p0) (x0 : Val) (i0 : Nat) (ah : Int) (bU : p0.list[i0]? = some x0) (dG : i0 < List.length p0.list) (bG : (decide ((i0 : Int) < ((List.length p0.list) : Int))) = true) (h0 : (decide (0 ≤ ah)) = true) {r : Rs} (hr : Q0 G (Qcz p0 p2 (i0 + 1) (Qg9 x0 ah (w64 (p2 - 1)))) r) : Q0 G (Qcz p0 p2 i0 ah) r := by
 have hB0 := H.1; have e0 := of_decide_eq_true h0
 exact Qc VOK.nil [hP 3 (Qw _ _ (Val.Q8 p0.list)), hB 0 bG, hB 2 h0, hP 4 (Q2q 5 _ i0 _ (Val.Qg bU) rfl), hP 7 (Q26 i0 (by omega))] [aN (rec x0 (szL bU) ah (w64 (p2 - 1)) (H.2.1 x0 (Q2l bU)))] hr (by kernel_rfl)
def Qsl (p0 : Val) (_p2 : Int) (i0 : Nat) (ah : Int) (_x0 : Val) : List PV :=
  nuns 7 ++ [iN (i0 : Int)] ++ nuns 15 ++ [iN (i0 : Int), .bx 0 3, .sl (Val.rows p0.list), iN ((List.length p0.list) : Int), .bool true, .bool true, iN ah, .bool false, .bool false]
def Qmb (_p0 : Val) (_p2 : Int) (_i0 : Nat) (_ah : Int) (_x0 : Val) : List (Nat × List PV) :=
  []
theorem Q1dn (p0 : Val) (p2 : Int) (_H : Qbi p0 p2) (_rec : Q8q p0) (x0 : Val) (i0 : Nat) (ah : Int) (_bU : p0.list[i0]? = some x0) (_dG : i0 < List.length p0.list) (bG : (decide ((i0 : Int) < ((List.length p0.list) : Int))) = true) (h0 : (decide (0 ≤ ah)) = false) : Qdg p0 p2 (Qcz p0 p2 i0 ah) ah := by
 exact ⟨(envF (Qsl p0 p2 i0 ah x0)), (zoF (Qmb p0 p2 i0 ah x0)), Qd VOK.nil (x := ((.exit 0), Qez p0 p2 ah (envF (Qsl p0 p2 i0 ah x0)) (zoF (Qmb p0 p2 i0 ah x0)))) [hP 3 (Qw _ _ (Val.Q8 p0.list)), hB 0 bG, hB 2 h0] [] (by kernel_rfl)⟩
theorem Q11u (p0 : Val) (p2 : Int) (H : Qbi p0 p2) (rec : Q8q p0) : ∀ (r0 : List Val) (i0 : Nat) (ah : Int), List.drop i0 p0.list = r0 → Qdg p0 p2 (Qcz p0 p2 i0 ah) (Q4c p0 p2 r0 i0 ah)
 | [], i0, ah, hd => by
  have bG : (decide ((i0 : Int) < ((List.length p0.list) : Int))) = false := by have := Q1c hd; simp; omega
  rw [Q4c]
  exact Q1dm p0 p2 H rec i0 ah bG
 | x0 :: r0, i0, ah, hd => by
  obtain ⟨bU, dG, hd'⟩ := Q19 hd
  have bG : (decide ((i0 : Int) < ((List.length p0.list) : Int))) = true := by simp; omega
  rw [Q4c]
  cases h0 : (decide (0 ≤ ah)) with
  | true =>
   exact Qvs p0 p2 (fun r hr => Q1b1 p0 p2 H rec x0 i0 ah bU dG bG h0 hr) _ (Q11u p0 p2 H rec r0 _ _ hd')
  | false =>
   exact Q1dn p0 p2 H rec x0 i0 ah bU dG bG h0
def Qsm (p0 : Val) (p2 : Int) (i1 : Nat) (_bq : Int) : List PV :=
  [.un, .un, iN p2, .bx 0 0, .un, .un, .un, .un, iN (i1 : Int)] ++ nuns 34 ++ [iN (i1 : Int), .bx 0 4, .sl (Fld.rows p0.fields), iN ((List.length p0.fields) : Int), .bool false, .bool false, .tup [], .tup [], .bool false]
def Qmc (_p0 : Val) (_p2 : Int) (_i1 : Nat) (_bq : Int) : List (Nat × List PV) :=
  []
theorem Q1do (p0 : Val) (p2 : Int) (_H : Q9s p0 p2) (_rec : Q8q p0) (i1 : Nat) (bq : Int) (hc1 : (decide ((i1 : Int) < ((List.length p0.fields) : Int))) = false) : Qbn p0 p2 (Qbf p0 p2 i1 bq) (.k0 bq) := by
 exact ⟨(envF (Qsm p0 p2 i1 bq)), (zoF (Qmc p0 p2 i1 bq)), Qd VOK.nil (x := ((.exit 2), Qf0 p0 p2 bq (envF (Qsm p0 p2 i1 bq)) (zoF (Qmc p0 p2 i1 bq)))) [hP 3 (Qw _ _ (Fld.Q8 p0.fields)), hB 0 hc1] [] (by kernel_rfl)⟩
def Qsn (p0 : Val) (p2 : Int) (i1 : Nat) (bq : Int) (x1 : Fld) : List PV :=
  [.un, iN bq, iN p2, .bx 0 0, .un, .un, .un, .un, iN (i1 : Int)] ++ nuns 34 ++ [iN (i1 : Int), .bx 0 4, .sl (Fld.rows p0.fields), iN ((List.length p0.fields) : Int), .bool true, .bool true, iN bq, .bool true, .bool true, .un, .un, .bx 0 4, .sl (Fld.rows p0.fields), iN (i1 : Int), .rf [.str x1.name, iN x1.v.kind, iN x1.v.n, .str x1.v.s, .sl (Val.rows x1.v.list), .sl (Fld.rows x1.v.fields)], .rf [.str x1.name, iN x1.v.kind, iN x1.v.n, .str x1.v.s, .sl (Val.rows x1.v.list), .sl (Fld.rows x1.v.fields)], .str x1.name, iN (ByteArray.size x1.name : Int), .bool true]
def Qmd (p0 : Val) (_p2 : Int) (_i1 : Nat) (_bq : Int) (_x1 : Fld) : List (Nat × List PV) :=
  [(0, (Val.cells p0))]
theorem Q1dp (p0 : Val) (p2 : Int) (_H : Q9s p0 p2) (_rec : Q8q p0) (x1 : Fld) (i1 : Nat) (bq : Int) (gQ : p0.fields[i1]? = some x1) (_iF : i1 < List.length p0.fields) (hc1 : (decide ((i1 : Int) < ((List.length p0.fields) : Int))) = true) (h0 : (decide (0 ≤ bq)) = true) (h1 : (decide (1000 < (ByteArray.size x1.name : Int))) = true) : Qbn p0 p2 (Qbf p0 p2 i1 bq) (.k1) := by
 exact ⟨(envF (Qsn p0 p2 i1 bq x1)), (zoF (Qmd p0 p2 i1 bq x1)), Qd VOK.nil (x := (.ret, Qqx p0 p2 (envF (Qsn p0 p2 i1 bq x1)) (zoF (Qmd p0 p2 i1 bq x1)))) [hP 3 (Qw _ _ (Fld.Q8 p0.fields)), hB 0 hc1, hB 2 h0, hP 4 (Q2q 6 _ i1 _ (Fld.Qg gQ) rfl), hB 3 h1] [] (by kernel_rfl)⟩
theorem Q1b2 (p0 : Val) (p2 : Int) (H : Q9s p0 p2) (rec : Q8q p0) (x1 : Fld) (i1 : Nat) (bq : Int) (gQ : p0.fields[i1]? = some x1) (iF : i1 < List.length p0.fields) (hc1 : (decide ((i1 : Int) < ((List.length p0.fields) : Int))) = true) (h0 : (decide (0 ≤ bq)) = true) (h1 : (decide (1000 < (ByteArray.size x1.name : Int))) = false) {r : Rs} (hr : Q0 G (Qbf p0 p2 (i1 + 1) (Qg9 x1.v bq (w64 (p2 - 1)))) r) : Q0 G (Qbf p0 p2 i1 bq) r := by
 have hB0 := H.1; have e0 := of_decide_eq_true h0; have e1 := of_decide_eq_false h1
 exact Qc VOK.nil [hP 3 (Qw _ _ (Fld.Q8 p0.fields)), hB 0 hc1, hB 2 h0, hP 4 (Q2q 6 _ i1 _ (Fld.Qg gQ) rfl), hB 3 h1, hP 3 (Q2q 6 _ i1 _ (Fld.Qg gQ) rfl), hP 8 (Q26 i1 (by omega))] [aN (rec x1.v (szF gQ) bq (w64 (p2 - 1)) (H.2.1 x1 (Q2l gQ)))] hr (by kernel_rfl)
def Qso (p0 : Val) (p2 : Int) (i1 : Nat) (bq : Int) (_x1 : Fld) : List PV :=
  [.un, .un, iN p2, .bx 0 0, .un, .un, .un, .un, iN (i1 : Int)] ++ nuns 34 ++ [iN (i1 : Int), .bx 0 4, .sl (Fld.rows p0.fields), iN ((List.length p0.fields) : Int), .bool true, .bool true, iN bq, .bool false, .bool false]
def Qme (_p0 : Val) (_p2 : Int) (_i1 : Nat) (_bq : Int) (_x1 : Fld) : List (Nat × List PV) :=
  []
theorem Q1dq (p0 : Val) (p2 : Int) (_H : Q9s p0 p2) (_rec : Q8q p0) (x1 : Fld) (i1 : Nat) (bq : Int) (_gQ : p0.fields[i1]? = some x1) (_iF : i1 < List.length p0.fields) (hc1 : (decide ((i1 : Int) < ((List.length p0.fields) : Int))) = true) (h0 : (decide (0 ≤ bq)) = false) : Qbn p0 p2 (Qbf p0 p2 i1 bq) (.k0 bq) := by
 exact ⟨(envF (Qso p0 p2 i1 bq x1)), (zoF (Qme p0 p2 i1 bq x1)), Qd VOK.nil (x := ((.exit 2), Qf0 p0 p2 bq (envF (Qso p0 p2 i1 bq x1)) (zoF (Qme p0 p2 i1 bq x1)))) [hP 3 (Qw _ _ (Fld.Q8 p0.fields)), hB 0 hc1, hB 2 h0] [] (by kernel_rfl)⟩
theorem Q11v (p0 : Val) (p2 : Int) (H : Q9s p0 p2) (rec : Q8q p0) : ∀ (r1 : List Fld) (i1 : Nat) (bq : Int), List.drop i1 p0.fields = r1 → Qbn p0 p2 (Qbf p0 p2 i1 bq) (Q4r p0 p2 r1 i1 bq)
 | [], i1, bq, hd => by
  have hc1 : (decide ((i1 : Int) < ((List.length p0.fields) : Int))) = false := by have := Q1c hd; simp; omega
  rw [Q4r]
  exact Q1do p0 p2 H rec i1 bq hc1
 | x1 :: r1, i1, bq, hd => by
  obtain ⟨gQ, iF, hd'⟩ := Q19 hd
  have hc1 : (decide ((i1 : Int) < ((List.length p0.fields) : Int))) = true := by simp; omega
  rw [Q4r]
  cases h0 : (decide (0 ≤ bq)) with
  | true =>
   cases h1 : (decide (1000 < (ByteArray.size x1.name : Int))) with
   | true =>
    exact Q1dp p0 p2 H rec x1 i1 bq gQ iF hc1 h0 h1
   | false =>
    exact Qvt p0 p2 (fun r hr => Q1b2 p0 p2 H rec x1 i1 bq gQ iF hc1 h0 h1 hr) _ (Q11v p0 p2 H rec r1 _ _ hd')
  | false =>
   exact Q1dq p0 p2 H rec x1 i1 bq gQ iF hc1 h0
theorem Q2c5 (p0 : Val) (p1 : Int) (p2 : Int) (H : Qzz p0) (rec : Q8q p0) : Q0 G (Q1lu p0 p1 p2) (Q1hb p0 p1 p2) := by
  unfold Q1hb
  rw [Qg9]
  cases h0 : (decide (p1 ≤ 0)) with
  | true =>
   exact Q5 (fn := Ir.K1s) (by kernel_rfl) VOK.nil [hB 3 h0] [] (by kernel_rfl)
  | false =>
   cases h1 : (decide (p2 ≤ 0)) with
   | true =>
    exact Q5 (fn := Ir.K1s) (by kernel_rfl) VOK.nil [hB 3 h0, hB 2 h1] [] (by kernel_rfl)
   | false =>
    cases h2 : (decide (1000 < (ByteArray.size p0.s : Int))) with
    | true =>
     exact Q5 (fn := Ir.K1s) (by kernel_rfl) VOK.nil [hB 3 h0, hB 2 h1, hB 5 h2] [] (by kernel_rfl)
    | false =>
     have ji := Q11u p0 p2 ((Q17c p0 p1 p2 H).1) rec p0.list 0 (w64 (p1 - 1)) (by simp)
     obtain ⟨z3, zo3, ji⟩ := ji
     have gY := Q11v p0 p2 ((Q17c p0 p1 p2 H).2.1) rec p0.fields 0 (Q4c p0 p2 p0.list 0 (w64 (p1 - 1))) (by simp)
     cases hr4 : (Q4r p0 p2 p0.fields 0 (Q4c p0 p2 p0.list 0 (w64 (p1 - 1)))) with
     | k0 jh =>
       rw [hr4] at gY
       obtain ⟨z4, iT, gY⟩ := gY
       exact Q5 (fn := Ir.K1s) (by kernel_rfl) VOK.nil [hB 3 h0, hB 2 h1, hB 5 h2] [aN ji, aN gY] (by kernel_rfl)
     | k1 =>
       rw [hr4] at gY
       obtain ⟨z4, iT, gY⟩ := gY
       exact Q5 (fn := Ir.K1s) (by kernel_rfl) VOK.nil [hB 3 h0, hB 2 h1, hB 5 h2] [aN ji, aN gY] (by kernel_rfl)
theorem Q1zy : ∀ (k : Nat) (p0 : Val), SizeOf.sizeOf p0 < k → ∀ (p1 : Int), ∀ (p2 : Int), Qzz p0 → Q0 G (Q1lu p0 p1 p2) (Q1hb p0 p1 p2)
  | 0, _, h, _, _, _ => absurd h (Nat.not_lt_zero _)
  | k + 1, p0, h, p1, p2, H => Q2c5 p0 p1 p2 H (fun q hq p1 p2 hH => Q1zy k q (by omega) p1 p2 hH)
theorem Q2d9 (p0 : Val) (p1 : Int) (p2 : Int) (H : Qzz p0) : Q0 G (Q1lu p0 p1 p2) (Q1hb p0 p1 p2) := Q1zy _ p0 (Nat.lt_succ_self _) p1 p2 H
def Qye (p0 : Val) (p1 : Int) : Bool :=
 (decide (0 ≤ (Qg9 p0 p1 p1)))
def Q274 (p0 : Val) (p1 : Int) : En := .call 63 [.agg (Val.cells p0), iN p1] []
def Q1x3 (p0 : Val) (p1 : Int) : Rs := .ret (.bool (Qye p0 p1)) []
def Q1qg (p0 : Val) (_p1 : Int) : Prop := (Qzz p0) ∧ True
theorem Q1s3 (p0 : Val) (p1 : Int) (H : Q1qg p0 p1) : Q0 G (Q274 p0 p1) (Q1x3 p0 p1) := by
 unfold Q1x3 Qye
 exact Q5 (fn := Ir.K1r) (by kernel_rfl) VOK.nil [] [aN (Q2d9 p0 p1 p1 H.1)] (by kernel_rfl)
def Q20n (p0 : Bool) (p1 : Bool) : Int :=
 bif p0 then
  bif p1 then
   (-1)
  else
   (-1)
 else
  bif p1 then
   1
  else
   0
def Q275 (p0 : Bool) (p1 : Bool) : En := .call 230 [.bool p0, .bool p1] []
def Q1x4 (p0 : Bool) (p1 : Bool) : Rs := .ret (iN (Q20n p0 p1)) []
theorem Q1cr (p0 : Bool) (p1 : Bool) : Q0 G (Q275 p0 p1) (Q1x4 p0 p1) := by
 unfold Q1x4 Q20n
 cases h0 : p0 with
 | true =>
  cases h1 : p1 with
  | true =>
   exact Q5 (fn := Ir.K1t) (by kernel_rfl) VOK.nil [] [] (by kernel_rfl)
  | false =>
   exact Q5 (fn := Ir.K1t) (by kernel_rfl) VOK.nil [] [] (by kernel_rfl)
 | false =>
  cases h1 : p1 with
  | true =>
   exact Q5 (fn := Ir.K1t) (by kernel_rfl) VOK.nil [] [] (by kernel_rfl)
  | false =>
   exact Q5 (fn := Ir.K1t) (by kernel_rfl) VOK.nil [] [] (by kernel_rfl)
def Q20l (_ : Val) : Int := 0
def Q17y (p0 : Val) : List Val → Nat → Unit
 | [], _i0 =>
  ()
 | _x0 :: r0, i0 =>
  Q17y p0 r0 (i0 + 1)
def Q1f6 (_p0 : Val) (i0 : Nat) : List PV :=
  [.un, .un, .bx 0 0, .bx 1 0, .un, iN 0, iN (i0 : Int)] ++ nuns 162
def Q1gb (p0 : Val) (_i0 : Nat) : List Ob :=
  [⟨5, 0, true, (Val.cells p0)⟩, ⟨5, 0, true, (Val.cells p0)⟩]
def Qgo (p0 : Val) (i0 : Nat) : En := .loop 0 Ir.Qki Ir.Q1og (Q1f6 p0 i0) (Q1gb p0 i0)
def Qqv (p0 : Val) (z : Nat → PV) (_zo : Nat → List PV) : St :=
  ⟨[z 0, z 1, .bx 0 0, .bx 1 0, z 4, iN 0] ++ zr z 6 163, [(0, ⟨5, 0, true, (Val.cells p0)⟩), (1, ⟨5, 0, true, (Val.cells p0)⟩)], 1026⟩
def Qbl (p0 : Val) (e : En) (_q : Unit) : Prop := ∃ z zo, Q0 G e (.st (.exit 0) (Qqv p0 z zo))
theorem Qvq (p0 : Val) {e e' : En} (h : ∀ r, Q0 G e r → Q0 G e' r) : ∀ q, Qbl p0 e q → Qbl p0 e' q
  | _, ⟨z, zo, hz⟩ => ⟨z, zo, h _ hz⟩
def Q17z (p0 : Val) : List Fld → Nat → Unit
 | [], _i1 =>
  ()
 | _x1 :: r1, i1 =>
  Q17z p0 r1 (i1 + 1)
def Q1f7 (_p0 : Val) (i1 : Nat) : List PV :=
  [.un, .un, .bx 0 0, .bx 1 0, .un, iN 0, .un, iN (i1 : Int)] ++ nuns 161
def Q1gc (p0 : Val) (_i1 : Nat) : List Ob :=
  [⟨5, 0, true, (Val.cells p0)⟩, ⟨5, 0, true, (Val.cells p0)⟩]
def Qgp (p0 : Val) (i1 : Nat) : En := .loop 0 Ir.Qkj Ir.Q1oh (Q1f7 p0 i1) (Q1gc p0 i1)
def Qqw (p0 : Val) (z : Nat → PV) (_zo : Nat → List PV) : St :=
  ⟨[z 0, z 1, .bx 0 0, .bx 1 0, z 4, iN 0] ++ zr z 6 163, [(0, ⟨5, 0, true, (Val.cells p0)⟩), (1, ⟨5, 0, true, (Val.cells p0)⟩)], 1026⟩
def Qbm (p0 : Val) (e : En) (_q : Unit) : Prop := ∃ z zo, Q0 G e (.st (.exit 2) (Qqw p0 z zo))
theorem Qvr (p0 : Val) {e e' : En} (h : ∀ r, Q0 G e r → Q0 G e' r) : ∀ q, Qbm p0 e q → Qbm p0 e' q
  | _, ⟨z, zo, hz⟩ => ⟨z, zo, h _ hz⟩
theorem Q29z (p0 : Val) : Q20l p0 = (0) := by
  rfl
def Q1lt (p0 : Val) : En := .call 194 [.agg (Val.cells p0), .agg (Val.cells p0)] []
def Q1ha (p0 : Val) : Rs := .ret (iN (Q20l p0)) []
abbrev Qzy (p0 : Val) : Prop := Val.Sm 4611686018427387904 p0
def Qcg (p0 : Val) : Prop := ∀ (q : Val), SizeOf.sizeOf q < SizeOf.sizeOf p0 → Qzy q → Q0 G (Q1lt q) (Q1ha q)
def Qd2 (p0 : Val) : Prop := (List.length p0.list ≤ 4611686018427387904) ∧ (∀ x0 ∈ p0.list, Qzy x0) ∧ True
def Qd3 (p0 : Val) : Prop := (List.length p0.fields ≤ 4611686018427387904) ∧ (∀ x1 ∈ p0.fields, Qzy x1.v) ∧ True
theorem Q17b (p0 : Val) (H : Qzy p0) : (Qd2 p0) ∧ (Qd3 p0) ∧ True := by
  obtain ⟨h1, h2, h3, h4⟩ := H.all
  simp only [Qd2, Qd3]
  exact ⟨⟨h1, h3, trivial⟩, ⟨h2, h4, trivial⟩, trivial⟩
def Qsi (p0 : Val) (i0 : Nat) : List PV :=
  nuns 6 ++ [iN (i0 : Int)] ++ nuns 38 ++ [iN (i0 : Int), .bx 0 3, .sl (Val.rows p0.list), iN ((List.length p0.list) : Int), .bool false, .bool false, .tup [], .tup [], .tup [], .tup [], .tup [], .bool false, .bool false, .tup [], .tup [], .bool false]
def Qm8 (_p0 : Val) (_i0 : Nat) : List (Nat × List PV) :=
  []
theorem Q1dk (p0 : Val) (_H : Qd2 p0) (_rec : Qcg p0) (i0 : Nat) (bG : (decide ((i0 : Int) < ((List.length p0.list) : Int))) = false) : Qbl p0 (Qgo p0 i0) () := by
 exact ⟨(envF (Qsi p0 i0)), (zoF (Qm8 p0 i0)), Qd VOK.nil (x := ((.exit 0), Qqv p0 (envF (Qsi p0 i0)) (zoF (Qm8 p0 i0)))) [hP 3 (Qw _ _ (Val.Q8 p0.list)), hB 0 bG] [] (by kernel_rfl)⟩
theorem Q1az (p0 : Val) (H : Qd2 p0) (rec : Qcg p0) (x0 : Val) (i0 : Nat) (bU : p0.list[i0]? = some x0) (dG : i0 < List.length p0.list) (bG : (decide ((i0 : Int) < ((List.length p0.list) : Int))) = true) {r : Rs} (hr : Q0 G (Qgo p0 (i0 + 1)) r) : Q0 G (Qgo p0 i0) r := by
 have hB0 := H.1
 exact Qc VOK.nil [hP 3 (Qw _ _ (Val.Q8 p0.list)), hB 0 bG, hP 4 (Qw _ _ (Val.Q8 p0.list)), hB 0 bG, hP 8 (Q2q 5 _ i0 _ (Val.Qg bU) rfl), hP 4 (Q2q 5 _ i0 _ (Val.Qg bU) rfl), hP 4 (Q26 i0 (by omega))] [aN (rec x0 (szL bU) (H.2.1 x0 (Q2l bU)))] hr (by kernel_rfl)
theorem Q11s (p0 : Val) (H : Qd2 p0) (rec : Qcg p0) : ∀ (r0 : List Val) (i0 : Nat), List.drop i0 p0.list = r0 → Qbl p0 (Qgo p0 i0) (Q17y p0 r0 i0)
 | [], i0, hd => by
  have bG : (decide ((i0 : Int) < ((List.length p0.list) : Int))) = false := by have := Q1c hd; simp; omega
  show Qbl p0 _ ()
  exact Q1dk p0 H rec i0 bG
 | x0 :: r0, i0, hd => by
  obtain ⟨bU, dG, hd'⟩ := Q19 hd
  have bG : (decide ((i0 : Int) < ((List.length p0.list) : Int))) = true := by simp; omega
  show Qbl p0 _ ()
  exact Qvq p0 (fun r hr => Q1az p0 H rec x0 i0 bU dG bG hr) _ (Q11s p0 H rec r0 _ hd')
def Qsj (p0 : Val) (i1 : Nat) : List PV :=
  nuns 7 ++ [iN (i1 : Int)] ++ nuns 83 ++ [iN (i1 : Int), .bx 0 4, .sl (Fld.rows p0.fields), iN ((List.length p0.fields) : Int), .bool false, .bool false, .tup [], .tup [], .tup [], .tup [], .tup [], .bool false, .bool false, .tup [], .tup [], .bool false]
def Qm9 (_p0 : Val) (_i1 : Nat) : List (Nat × List PV) :=
  []
theorem Q1dl (p0 : Val) (_H : Qd3 p0) (_rec : Qcg p0) (i1 : Nat) (hc1 : (decide ((i1 : Int) < ((List.length p0.fields) : Int))) = false) : Qbm p0 (Qgp p0 i1) () := by
 exact ⟨(envF (Qsj p0 i1)), (zoF (Qm9 p0 i1)), Qd VOK.nil (x := ((.exit 2), Qqw p0 (envF (Qsj p0 i1)) (zoF (Qm9 p0 i1)))) [hP 3 (Qw _ _ (Fld.Q8 p0.fields)), hB 0 hc1] [] (by kernel_rfl)⟩
theorem Q1b0 (p0 : Val) (H : Qd3 p0) (rec : Qcg p0) (x1 : Fld) (i1 : Nat) (gQ : p0.fields[i1]? = some x1) (iF : i1 < List.length p0.fields) (hc1 : (decide ((i1 : Int) < ((List.length p0.fields) : Int))) = true) {r : Rs} (hr : Q0 G (Qgp p0 (i1 + 1)) r) : Q0 G (Qgp p0 i1) r := by
 have hB0 := H.1
 exact Qc VOK.nil [hP 3 (Qw _ _ (Fld.Q8 p0.fields)), hB 0 hc1, hP 4 (Qw _ _ (Fld.Q8 p0.fields)), hB 0 hc1, hP 8 (Q2q 6 _ i1 _ (Fld.Qg gQ) rfl), hP 5 (Q2q 6 _ i1 _ (Fld.Qg gQ) rfl), hP 2 (dec (sLt x1.name x1.name) false (Q1jr _)), hP 3 (Q2q 6 _ i1 _ (Fld.Qg gQ) rfl), hP 5 (Q2q 6 _ i1 _ (Fld.Qg gQ) rfl), hP 2 (dec (!((sLt x1.name x1.name) || (sEq x1.name x1.name))) false (by rw [(Q209 (Q4u.2 rfl))]; rfl)), hP 7 (Q2q 6 _ i1 _ (Fld.Qg gQ) rfl), hP 5 (Q2q 6 _ i1 _ (Fld.Qg gQ) rfl), hP 5 (Q26 i1 (by omega))] [aN (Q1cr false false), aN (rec x1.v (szF gQ) (H.2.1 x1 (Q2l gQ)))] hr (by kernel_rfl)
theorem Q11t (p0 : Val) (H : Qd3 p0) (rec : Qcg p0) : ∀ (r1 : List Fld) (i1 : Nat), List.drop i1 p0.fields = r1 → Qbm p0 (Qgp p0 i1) (Q17z p0 r1 i1)
 | [], i1, hd => by
  have hc1 : (decide ((i1 : Int) < ((List.length p0.fields) : Int))) = false := by have := Q1c hd; simp; omega
  show Qbm p0 _ ()
  exact Q1dl p0 H rec i1 hc1
 | x1 :: r1, i1, hd => by
  obtain ⟨gQ, iF, hd'⟩ := Q19 hd
  have hc1 : (decide ((i1 : Int) < ((List.length p0.fields) : Int))) = true := by simp; omega
  show Qbm p0 _ ()
  exact Qvr p0 (fun r hr => Q1b0 p0 H rec x1 i1 gQ iF hc1 hr) _ (Q11t p0 H rec r1 _ hd')
theorem Q2c4 (p0 : Val) (H : Qzy p0) (rec : Qcg p0) : Q0 G (Q1lt p0) (Q1ha p0) := by
  unfold Q1ha
  rw [Q29z]
  have hl0 := Q11s p0 ((Q17b p0 H).1) rec p0.list 0 (by simp)
  obtain ⟨z0, gq, hl0⟩ := hl0
  have hl1 := Q11t p0 ((Q17b p0 H).2.1) rec p0.fields 0 (by simp)
  obtain ⟨z1, iR, hl1⟩ := hl1
  exact Q5 (fn := Ir.K1l) (by kernel_rfl) VOK.nil [hP 7 (dec (decide (p0.kind < p0.kind)) false (decide_eq_false (Int.lt_irrefl _))), hP 4 (dec (decide (p0.kind < p0.kind)) false (decide_eq_false (Int.lt_irrefl _))), hP 8 (dec (decide (p0.n < p0.n)) false (decide_eq_false (Int.lt_irrefl _))), hP 4 (dec (decide (p0.n < p0.n)) false (decide_eq_false (Int.lt_irrefl _))), hP 8 (dec (sLt p0.s p0.s) false (Q1jr _)), hP 4 (dec (!((sLt p0.s p0.s) || (sEq p0.s p0.s))) false (by rw [(Q209 (Q4u.2 rfl))]; rfl)), hP 7 (Qw _ _ (Val.Q8 p0.list)), hP 2 (Qw _ _ (Val.Q8 p0.list)), hP 0 (dec (decide (((List.length p0.list) : Int) < ((List.length p0.list) : Int))) false (decide_eq_false (Int.lt_irrefl _))), hP 2 (Qw _ _ (Val.Q8 p0.list)), hP 2 (Qw _ _ (Val.Q8 p0.list)), hP 0 (dec (decide (((List.length p0.list) : Int) < ((List.length p0.list) : Int))) false (decide_eq_false (Int.lt_irrefl _))), hP 7 (Qw _ _ (Fld.Q8 p0.fields)), hP 2 (Qw _ _ (Fld.Q8 p0.fields)), hP 0 (dec (decide (((List.length p0.fields) : Int) < ((List.length p0.fields) : Int))) false (decide_eq_false (Int.lt_irrefl _))), hP 2 (Qw _ _ (Fld.Q8 p0.fields)), hP 2 (Qw _ _ (Fld.Q8 p0.fields)), hP 0 (dec (decide (((List.length p0.fields) : Int) < ((List.length p0.fields) : Int))) false (decide_eq_false (Int.lt_irrefl _)))] [aN (Q1cr false false), aN (Q1cr false false), aN (Q1cr false false), aN hl0, aN (Q1cr false false), aN hl1, aN (Q1cr false false)] (by kernel_rfl)
theorem Q1zx : ∀ (k : Nat) (p0 : Val), SizeOf.sizeOf p0 < k → Qzy p0 → Q0 G (Q1lt p0) (Q1ha p0)
  | 0, _, h, _ => absurd h (Nat.not_lt_zero _)
  | k + 1, p0, h, H => Q2c4 p0 H (fun q hq hH => Q1zx k q (by omega) hH)
theorem Q2d8 (p0 : Val) (H : Qzy p0) : Q0 G (Q1lt p0) (Q1ha p0) := Q1zx _ p0 (Nat.lt_succ_self _) H
def Q20m (_p0 : Val) : Bool :=
 true
def Q273 (p0 : Val) : En := .call 98 [.agg (Val.cells p0), .agg (Val.cells p0)] []
def Q1x2 (p0 : Val) : Rs := .ret (.bool (Q20m p0)) []
def Q1qf (p0 : Val) : Prop := (Qzy p0) ∧ True
theorem Q20w (p0 : Val) (H : Q1qf p0) : Q0 G (Q273 p0) (Q1x2 p0) := by
 unfold Q1x2 Q20m
 exact Q5 (fn := Ir.K1n) (by kernel_rfl) VOK.nil [] [aN (Q65 (c := fun y => .call 194 [.agg (Val.cells p0), .agg (Val.cells y)] []) rfl (Q2d8 p0 H.1))] (by kernel_rfl)
def Q183 (p0 : List ByteArray) : List ByteArray → Nat → Unit
 | [], _i0 =>
  ()
 | _x0 :: r0, i0 =>
  Q183 p0 r0 (i0 + 1)
def Q1fd (p0 : List ByteArray) (i0 : Nat) : List PV :=
  [.sl (Q18 p0), .sl (Q18 p0), .un, .un, .un, iN (i0 : Int)] ++ nuns 20
def Q1gi (_p0 : List ByteArray) (_i0 : Nat) : List Ob :=
  []
def Qgt (p0 : List ByteArray) (i0 : Nat) : En := .loop 0 Ir.Qkp Ir.Q1on (Q1fd p0 i0) (Q1gi p0 i0)
def Qr1 (_p0 : List ByteArray) (z : Nat → PV) (_zo : Nat → List PV) : St :=
  ⟨zr z 0 26, [], 256⟩
def Qbr (p0 : List ByteArray) (e : En) (_q : Unit) : Prop := ∃ z zo, Q0 G e (.st (.exit 0) (Qr1 p0 z zo))
theorem Qvx (p0 : List ByteArray) {e e' : En} (h : ∀ r, Q0 G e r → Q0 G e' r) : ∀ q, Qbr p0 e q → Qbr p0 e' q
  | _, ⟨z, zo, hz⟩ => ⟨z, zo, h _ hz⟩
def Qhx (p0 : List ByteArray) : Prop := (List.length p0 ≤ 4611686018427387904) ∧ True
def Qss (p0 : List ByteArray) (i0 : Nat) : List PV :=
  [.sl (Q18 p0), .sl (Q18 p0), .un, .un, .un, iN (i0 : Int)] ++ nuns 5 ++ [iN (i0 : Int), .sl (Q18 p0), iN ((List.length p0) : Int), .bool false]
def Qmi (_p0 : List ByteArray) (_i0 : Nat) : List (Nat × List PV) :=
  []
theorem Q1du (p0 : List ByteArray) (_H : Qhx p0) (i0 : Nat) (bG : (decide ((i0 : Int) < ((List.length p0) : Int))) = false) : Qbr p0 (Qgt p0 i0) () := by
 exact ⟨(envF (Qss p0 i0)), (zoF (Qmi p0 i0)), Qd VOK.nil (x := ((.exit 0), Qr1 p0 (envF (Qss p0 i0)) (zoF (Qmi p0 i0)))) [hP 2 (Qw _ _ (Q2s p0)), hB 0 bG] [] (by kernel_rfl)⟩
theorem Q1b6 (p0 : List ByteArray) (H : Qhx p0) (x0 : BA) (i0 : Nat) (bU : p0[i0]? = some x0) (dG : i0 < List.length p0) (bG : (decide ((i0 : Int) < ((List.length p0) : Int))) = true) {r : Rs} (hr : Q0 G (Qgt p0 (i0 + 1)) r) : Q0 G (Qgt p0 i0) r := by
 have hB0 := H.1
 exact Qc VOK.nil [hP 2 (Qw _ _ (Q2s p0)), hB 0 bG, hP 2 (Q2q 1 _ i0 _ (Q9k bU) rfl), hP 3 (Q2q 1 _ i0 _ (Q9k bU) rfl), hP 1 (dec (!(sEq x0 x0)) false (by rw [(Q4u.2 rfl)]; rfl)), hP 1 (Q26 i0 (by omega))] [] hr (by kernel_rfl)
theorem Q11z (p0 : List ByteArray) (H : Qhx p0) : ∀ (r0 : List ByteArray) (i0 : Nat), List.drop i0 p0 = r0 → Qbr p0 (Qgt p0 i0) (Q183 p0 r0 i0)
 | [], i0, hd => by
  have bG : (decide ((i0 : Int) < ((List.length p0) : Int))) = false := by have := Q1c hd; simp; omega
  show Qbr p0 _ ()
  exact Q1du p0 H i0 bG
 | x0 :: r0, i0, hd => by
  obtain ⟨bU, dG, hd'⟩ := Q19 hd
  have bG : (decide ((i0 : Int) < ((List.length p0) : Int))) = true := by simp; omega
  show Qbr p0 _ ()
  exact Qvx p0 (fun r hr => Q1b6 p0 H x0 i0 bU dG bG hr) _ (Q11z p0 H r0 _ hd')
def Q20q (_p0 : List ByteArray) : Bool :=
 true
def Q27a (p0 : List ByteArray) : En := .call 120 [.sl (Q18 p0), .sl (Q18 p0)] []
def Q1x9 (p0 : List ByteArray) : Rs := .ret (.bool (Q20q p0)) []
def Q1qh (p0 : List ByteArray) : Prop := (Qhx p0) ∧ True
theorem Q20y (p0 : List ByteArray) (H : Q1qh p0) : Q0 G (Q27a p0) (Q1x9 p0) := by
 unfold Q1x9 Q20q
 have hl0 := Q11z p0 (H.1) p0 0 (by simp)
 obtain ⟨z0, gq, hl0⟩ := hl0
 exact Q5 (fn := Ir.K1z) (by kernel_rfl) VOK.nil [hP 2 (Qw _ _ (Q2s p0)), hP 1 (Qw _ _ (Q2s p0)), hP 0 (dec (!(((List.length p0) : Int) == ((List.length p0) : Int))) false (by rw [(beq_self_eq_true _)]; rfl))] [aN hl0] (by kernel_rfl)
end Go.Proofs.YtimjjohlpnkacaaGreat
end

section
/- Parts of a slice of one's own, and appends of them. -/
namespace Go.Pv
def slmE (id sz n : Nat) (lo hi : Option Int) : Option Eff := (opP (fun _ => .un) (.slice sz (.c (.ms id sz 0 n)) (optI lo) (optI hi) none)).bind fun v => some ⟨v, [], []⟩
theorem Q19c (id sz n : Nat) (k : Int) (h0 : 0 ≤ k) (h1 : k ≤ (n : Int)) : slmE id sz n none (some k) = some (vE (.ms id sz 0 k.toNat)) := by
 unfold slmE
 simp only [opP, optI, Opd.ev, Q6s, asNat, Option.bind_some]
 have e0 : decide (0 ≤ k) = true := by simpa using h0
 rw [e0]
 simp only [cond_true, Option.bind_some]
 have e1 : (Nat.beq sz sz && Nat.ble 0 k.toNat && Nat.ble k.toNat n) = true := by
  rw [Nat.ble_eq_true_of_le (Nat.zero_le _), Nat.ble_eq_true_of_le (show k.toNat ≤ n by omega), Nat.beq_refl]
  rfl
 rw [e1]
 simp [vE]
theorem Q170 (id sz n : Nat) (k : Int) (h0 : 0 ≤ k) (h1 : k ≤ (n : Int)) : slmE id sz n (some k) none = some (vE (.ms id sz k.toNat (n - k.toNat))) := by
 unfold slmE
 simp only [opP, optI, Opd.ev, Q6s, asNat, Option.bind_some]
 have e0 : decide (0 ≤ k) = true := by simpa using h0
 rw [e0]
 simp only [cond_true, Option.bind_some]
 have e1 : (Nat.beq sz sz && Nat.ble k.toNat n && Nat.ble n n) = true := by
  rw [Nat.ble_eq_true_of_le (show k.toNat ≤ n by omega), Nat.ble_eq_true_of_le (Nat.le_refl n), Nat.beq_refl]
  rfl
 rw [e1]
 simp [vE]
theorem Qoc {sz : Nat} {rows : List (List PV)} (hs : ∀ r ∈ rows, r.length = sz) (off len : Nat) (h : off + len ≤ rows.length) :
  (rows.flatten.drop (off * sz)).take (len * sz) = ((rows.drop off).take len).flatten ∧ Nat.ble ((off + len) * sz) rows.flatten.length = true := by
 have hs' : ∀ r ∈ rows.drop off, r.length = sz := fun r hr => hs r (List.mem_of_mem_drop hr)
 have e : ∀ (l : List (List PV)) (k : Nat), (∀ r ∈ l, r.length = sz) → l.flatten.take (k * sz) = (l.take k).flatten := by
  intro l
  induction l with
  | nil => simp
  | cons q l ih =>
   intro k hl
   cases k with
   | zero => simp
   | succ k =>
    have hq := hl q List.mem_cons_self
    rw [List.flatten_cons, List.take_succ_cons, List.flatten_cons, ← ih k (fun r hr => hl r (List.mem_cons_of_mem _ hr)), show (k + 1) * sz = q.length + k * sz by rw [hq, Nat.add_mul]; omega, List.take_length_add_append]
 refine ⟨by rw [Qb8 sz rows off hs, e _ _ hs'], Nat.ble_eq_true_of_le ?_⟩
 rw [Q6u sz rows hs]
 exact Nat.mul_le_mul_right _ h
def appE (id fr sz bytes ro : Nat) (gr : Bool) (rows : List (List PV)) (off len : Nat) : Option Eff := Q5a (look [(id, ⟨sz, ro, gr, rows.flatten⟩)]) fr sz bytes (.ns sz) (.ms id sz off len)
theorem Q1lq (id fr sz bytes ro : Nat) (gr : Bool) (rows : List (List PV)) (off len : Nat) (hs : ∀ r ∈ rows, r.length = sz) (h : off + len ≤ rows.length) (h0 : len = 0) : appE id fr sz bytes ro gr rows off len = some ⟨.ns sz, [], [id]⟩ := by
 subst h0
 obtain ⟨_, h2⟩ := Qoc hs off 0 h
 unfold appE Q5a
 simp only [source, look, Nat.beq_refl, cond_true, Option.bind_some, Bool.true_and]
 rw [h2]
 simp
 rfl
theorem Q1zr (id fr sz bytes ro : Nat) (gr : Bool) (rows rows' : List (List PV)) (off len n' : Nat) (hs : ∀ r ∈ rows, r.length = sz) (h : off + len ≤ rows.length) (h0 : len ≠ 0) (hr : rows' = (rows.drop off).take len) (hn : n' = len) (hb : len * bytes ≤ 140737488355328) :
  appE id fr sz bytes ro gr rows off len = some ⟨.ms fr sz 0 n', [(fr, some ⟨sz, 0, true, rows'.flatten⟩)], [id]⟩ := by
 subst hr hn
 obtain ⟨h1, h2⟩ := Qoc hs off n' h
 unfold appE Q5a
 simp only [source, look, Nat.beq_refl, cond_true, Option.bind_some, Bool.true_and]
 rw [h2]
 simp only [cond_true, Option.bind_some]
 rw [Nat.ble_eq_true_of_le hb, h1]
 cases n' with
 | zero => exact absurd rfl h0
 | succ n => rfl
def Q1zp (id yid fr sz bytes ro : Nat) (cells : List PV) (yro : Nat) (ygr : Bool) (yrows : List (List PV)) (n off len : Nat) : Option Eff := Q5a (look [(id, ⟨sz, ro, true, cells⟩), (yid, ⟨sz, yro, ygr, yrows.flatten⟩)]) fr sz bytes (.ms id sz 0 n) (.ms yid sz off len)
theorem Q1hd (id yid fr sz bytes ro : Nat) (cells : List PV) (rows0 : List (List PV)) (yro : Nat) (ygr : Bool) (yrows rows' : List (List PV)) (n off len n' : Nat) (hne : Nat.beq id yid = false) (hc : cells = rows0.flatten) (hn : n = rows0.length) (hn' : n' = rows'.length) (hr' : rows' = rows0 ++ (yrows.drop off).take len)
  (hs0 : ∀ r ∈ rows0, r.length = sz) (hs : ∀ r ∈ yrows, r.length = sz) (h : off + len ≤ yrows.length) (hb : (n + len) * bytes ≤ 140737488355328) :
  Q1zp id yid fr sz bytes ro cells yro ygr yrows n off len = some ⟨.ms fr sz 0 n', [(id, none), (fr, some ⟨sz, ro, true, rows'.flatten⟩)], [id, yid]⟩ := by
 subst hc hn hn' hr'
 obtain ⟨h1, h2⟩ := Qoc hs off len h
 unfold Q1zp Q5a
 simp only [source, look, hne, Nat.beq_refl, cond_true, cond_false, Option.bind_some, Bool.true_and]
 rw [h2]
 simp only [cond_true, Option.bind_some]
 rw [Nat.ble_eq_true_of_le hb, h1, cond_true, Q1pl (ob := ⟨sz, ro, true, rows0.flatten⟩) (Q6u sz rows0 hs0)]
 have hl : ((yrows.drop off).take len).length = len := by simp; omega
 simp [hl]
end Go.Pv
end

section
/- Slices that are made with a length: their rows. -/
namespace Go.Pv
end Go.Pv
end

section
/- Rows of one's own: cleared behind a place, appended to from a place on. -/
namespace Go.Pv
theorem Val.Qyc (l : List Val) (k : Nat) (x : Val) : Val.rows (l.set k x) = (Val.rows l).set k (Val.cells x) := by simp [Val.Q4h, List.map_set]
theorem Fld.Qyc (l : List Fld) (k : Nat) (x : Fld) : Fld.rows (l.set k x) = (Fld.rows l).set k (Fld.cells x) := by simp [Fld.Q4h, List.map_set]
theorem Q157 {l : List (List PV)} {k : Nat} {r : List PV} (h : l[k]? = some r) : l = l.set k r := by
  apply List.ext_getElem?
  intro i
  rw [List.getElem?_set]
  by_cases e : k = i
  · subst e
    rw [if_pos rfl, h, if_pos (List.getElem?_eq_some_iff.1 h).1]
  · rw [if_neg e]
end Go.Pv
end

section
/- What copying dF computes (printed by a program). -/
namespace Go.Proofs.YtimjjohlpnkacaaGreat
open Go.Pv
def Q20r (p0 : Val) : Val := p0
def Q184 (p0 : Val) : List Val → Nat → Unit
 | [], _i0 =>
  ()
 | _x0 :: r0, i0 =>
  Q184 p0 r0 (i0 + 1)
def Q1fy (p0 : Val) (i0 : Nat) : List PV :=
  [.un, .bx 0 0, .bx 1 0] ++ nuns 9 ++ [.ms 2 5 0 (List.length p0.list), iN ((List.length p0.list) : Int), iN (i0 : Int)] ++ nuns 33
abbrev eB : ByteArray := ⟨#[]⟩
def Qzl (p0 : Val) (_i0 : Nat) : List Ob :=
  [⟨5, 0, true, [iN p0.kind, iN p0.n, .str p0.s, .ms 2 5 0 (List.length p0.list), .sl (Fld.rows p0.fields)]⟩, ⟨5, 0, true, [iN 0, iN 0, .str eB, .ms 3 5 0 0, .ms 4 6 0 0]⟩, ⟨5, 0, true, (Val.rows p0.list).flatten⟩, ⟨5, 0, true, []⟩, ⟨6, 0, true, []⟩]
def Qh8 (p0 : Val) (i0 : Nat) : En := .loop 0 Ir.Qla Ir.Q1p8 (Q1fy p0 i0) (Qzl p0 i0)
def Qrl (p0 : Val) (z : Nat → PV) (_zo : Nat → List PV) : St :=
  ⟨[z 0, .bx 0 0, .bx 1 0] ++ zr z 3 45, [(0, ⟨5, 0, true, [iN p0.kind, iN p0.n, .str p0.s, .ms 2 5 0 (List.length p0.list), .sl (Fld.rows p0.fields)]⟩), (1, ⟨5, 0, true, [iN 0, iN 0, .str eB, .ms 3 5 0 0, .ms 4 6 0 0]⟩), (2, ⟨5, 0, true, (Val.rows p0.list).flatten⟩), (3, ⟨5, 0, true, []⟩), (4, ⟨6, 0, true, []⟩)], 69⟩
theorem Q16h (p0 : Val) (i0 : Nat) : VOK (Go.Pv.look (number 0 (Qzl p0 i0))) [(2, Val.rows p0.list)] := (VOK.cons (show Seen _ _ from Q3o (ob := ⟨5, 0, true, (Val.rows p0.list).flatten⟩) (Val.Q7 p0.list 5 rfl)) VOK.nil)
def Qbs (p0 : Val) (e : En) (_q : Unit) : Prop := ∃ z zo, Q0 G e (.st (.exit 0) (Qrl p0 z zo))
theorem Qwf (p0 : Val) {e e' : En} (h : ∀ r, Q0 G e r → Q0 G e' r) : ∀ q, Qbs p0 e q → Qbs p0 e' q
  | _, ⟨z, zo, hz⟩ => ⟨z, zo, h _ hz⟩
def Q185 (p0 : Val) : List Fld → Nat → Unit
 | [], _i1 =>
  ()
 | _x1 :: r1, i1 =>
  Q185 p0 r1 (i1 + 1)
def Q1fz (p0 : Val) (i1 : Nat) : List PV :=
  [.un, .bx 0 0, .bx 1 0] ++ nuns 28 ++ [.ms 2 6 0 (List.length p0.fields), iN ((List.length p0.fields) : Int), iN (i1 : Int)] ++ nuns 14
def Qzm (p0 : Val) (_i1 : Nat) : List Ob :=
  [⟨5, 0, true, [iN p0.kind, iN p0.n, .str p0.s, .ms 3 5 0 (List.length p0.list), .ms 2 6 0 (List.length p0.fields)]⟩, ⟨5, 0, true, [iN 0, iN 0, .str eB, .ms 4 5 0 0, .ms 5 6 0 0]⟩, ⟨6, 0, true, (Fld.rows p0.fields).flatten⟩, ⟨5, 0, true, (Val.rows p0.list).flatten⟩, ⟨5, 0, true, []⟩, ⟨6, 0, true, []⟩]
def Qh9 (p0 : Val) (i1 : Nat) : En := .loop 0 Ir.Qlb Ir.Q1p9 (Q1fz p0 i1) (Qzm p0 i1)
def Qrm (p0 : Val) (z : Nat → PV) (_zo : Nat → List PV) : St :=
  ⟨[z 0, .bx 0 0, .bx 1 0] ++ zr z 3 45, [(0, ⟨5, 0, true, [iN p0.kind, iN p0.n, .str p0.s, .ms 3 5 0 (List.length p0.list), .ms 2 6 0 (List.length p0.fields)]⟩), (1, ⟨5, 0, true, [iN 0, iN 0, .str eB, .ms 4 5 0 0, .ms 5 6 0 0]⟩), (2, ⟨6, 0, true, (Fld.rows p0.fields).flatten⟩), (3, ⟨5, 0, true, (Val.rows p0.list).flatten⟩), (4, ⟨5, 0, true, []⟩), (5, ⟨6, 0, true, []⟩)], 70⟩
theorem Q16i (p0 : Val) (i1 : Nat) : VOK (Go.Pv.look (number 0 (Qzm p0 i1))) [(2, Fld.rows p0.fields), (3, Val.rows p0.list)] := (VOK.cons (show Seen _ _ from Q3o (ob := ⟨6, 0, true, (Fld.rows p0.fields).flatten⟩) (Fld.Q7 p0.fields 6 rfl)) (VOK.cons (show Seen _ _ from Q3o (ob := ⟨5, 0, true, (Val.rows p0.list).flatten⟩) (Val.Q7 p0.list 5 rfl)) VOK.nil))
def Qbt (p0 : Val) (e : En) (_q : Unit) : Prop := ∃ z zo, Q0 G e (.st (.exit 2) (Qrm p0 z zo))
theorem Qwg (p0 : Val) {e e' : En} (h : ∀ r, Q0 G e r → Q0 G e' r) : ∀ q, Qbt p0 e q → Qbt p0 e' q
  | _, ⟨z, zo, hz⟩ => ⟨z, zo, h _ hz⟩
theorem Q2as (p0 : Val) : Q20r p0 = (p0) := by
  rfl
def Q1lv (p0 : Val) : En := .call 189 [.agg (Val.cells p0)] []
def Q1hc (p0 : Val) : Rs := .ret (.agg (Val.cells (Q20r p0))) []
abbrev Qp2 (p0 : Val) : Prop := Val.Sm 1000000000 p0
def Qch (p0 : Val) : Prop := ∀ (q : Val), SizeOf.sizeOf q < SizeOf.sizeOf p0 → Qp2 q → Q0 G (Q1lv q) (Q1hc q)
def Qia (p0 : Val) : Prop := (List.length p0.list ≤ 4611686018427387904) ∧ (∀ x0 ∈ p0.list, Qp2 x0) ∧ True
def Qib (p0 : Val) : Prop := (List.length p0.fields ≤ 4611686018427387904) ∧ (∀ x1 ∈ p0.fields, Qp2 x1.v) ∧ True
theorem Qjn (p0 : Val) (H : Qp2 p0) : (List.length p0.list * 80 ≤ 140737488355328) ∧ (Qia p0) ∧ (List.length p0.fields * 96 ≤ 140737488355328) ∧ (Qib p0) ∧ True := by
  obtain ⟨h1, h2, h3, h4⟩ := H.all
  exact ⟨by omega, ⟨by omega, h3, trivial⟩, by omega, ⟨by omega, h4, trivial⟩, trivial⟩
def Qtg (p0 : Val) (i0 : Nat) : List PV :=
  nuns 12 ++ [.ms 2 5 0 (List.length p0.list), iN ((List.length p0.list) : Int), iN (i0 : Int), .bool false]
def Qn6 (_p0 : Val) (_i0 : Nat) : List (Nat × List PV) :=
  []
theorem Q1ei (p0 : Val) (_H : Qia p0) (_rec : Qch p0) (i0 : Nat) (bG : (decide ((i0 : Int) < ((List.length p0.list) : Int))) = false) : Qbs p0 (Qh8 p0 i0) () := by
 exact ⟨(envF (Qtg p0 i0)), (zoF (Qn6 p0 i0)), Qd (Q16h p0 i0) (x := ((.exit 0), Qrl p0 (envF (Qtg p0 i0)) (zoF (Qn6 p0 i0)))) [hB 0 bG] [] (by kernel_rfl)⟩
theorem Q1bt (p0 : Val) (H : Qia p0) (rec : Qch p0) (x0 : Val) (i0 : Nat) (bU : p0.list[i0]? = some x0) (dG : i0 < List.length p0.list) (bG : (decide ((i0 : Int) < ((List.length p0.list) : Int))) = true) {r : Rs} (hr : Q0 G (Qh8 p0 (i0 + 1)) r) : Q0 G (Qh8 p0 i0) r := by
 have hB0 := H.1
 exact Qc (Q16h p0 i0) [hB 0 bG, hP 1 (Q5k 2 5 (List.length p0.list) (i0 : Int) i0 (by omega) (by omega) (by omega)), hP 0 (Qc4 2 5 0 true ((Val.rows p0.list).flatten) (Val.rows p0.list) 5 true i0 0 (i0 * 5) (Val.cells x0) (.agg [iN x0.kind, iN x0.n, .str x0.s, .sl (Val.rows x0.list), .sl (Fld.rows x0.fields)]) rfl rfl (Val.Qg bU) (Val.Qh p0.list) (by decide) rfl), hP 8 (Q5k 2 5 (List.length p0.list) (i0 : Int) i0 (by omega) (by omega) (by omega)), hV 0 [(2, Val.rows p0.list)] (Q1kf 2 5 true ((Val.rows p0.list).flatten) (Val.rows p0.list) (Val.rows p0.list) 5 i0 0 (i0 * 5) _ (.agg [iN x0.kind, iN x0.n, .str x0.s, .sl (Val.rows x0.list), .sl (Fld.rows x0.fields)]) rfl rfl (Val.Qg bU) (Val.Qh p0.list) (by decide) rfl rfl (Q157 (Val.Qg bU))), hS 0 true (Val.Q7 p0.list 5 rfl), hP 0 (Q26 i0 (by omega))] [aN (rec x0 (szL bU) (H.2.1 x0 (Q2l bU)))] hr (by kernel_rfl)
theorem Q12h (p0 : Val) (H : Qia p0) (rec : Qch p0) : ∀ (r0 : List Val) (i0 : Nat), List.drop i0 p0.list = r0 → Qbs p0 (Qh8 p0 i0) (Q184 p0 r0 i0)
 | [], i0, hd => by
  have bG : (decide ((i0 : Int) < ((List.length p0.list) : Int))) = false := by have := Q1c hd; simp; omega
  show Qbs p0 _ ()
  exact Q1ei p0 H rec i0 bG
 | x0 :: r0, i0, hd => by
  obtain ⟨bU, dG, hd'⟩ := Q19 hd
  have bG : (decide ((i0 : Int) < ((List.length p0.list) : Int))) = true := by simp; omega
  show Qbs p0 _ ()
  exact Qwf p0 (fun r hr => Q1bt p0 H rec x0 i0 bU dG bG hr) _ (Q12h p0 H rec r0 _ hd')
def Qth (p0 : Val) (i1 : Nat) : List PV :=
  nuns 31 ++ [.ms 2 6 0 (List.length p0.fields), iN ((List.length p0.fields) : Int), iN (i1 : Int), .bool false]
def Qn7 (_p0 : Val) (_i1 : Nat) : List (Nat × List PV) :=
  []
theorem Q1ej (p0 : Val) (_H : Qib p0) (_rec : Qch p0) (i1 : Nat) (hc1 : (decide ((i1 : Int) < ((List.length p0.fields) : Int))) = false) : Qbt p0 (Qh9 p0 i1) () := by
 exact ⟨(envF (Qth p0 i1)), (zoF (Qn7 p0 i1)), Qd (Q16i p0 i1) (x := ((.exit 2), Qrm p0 (envF (Qth p0 i1)) (zoF (Qn7 p0 i1)))) [hB 0 hc1] [] (by kernel_rfl)⟩
theorem Q1bu (p0 : Val) (H : Qib p0) (rec : Qch p0) (x1 : Fld) (i1 : Nat) (gQ : p0.fields[i1]? = some x1) (iF : i1 < List.length p0.fields) (hc1 : (decide ((i1 : Int) < ((List.length p0.fields) : Int))) = true) {r : Rs} (hr : Q0 G (Qh9 p0 (i1 + 1)) r) : Q0 G (Qh9 p0 i1) r := by
 have hB0 := H.1
 exact Qc (Q16i p0 i1) [hB 0 hc1, hP 1 (Q5k 2 6 (List.length p0.fields) (i1 : Int) i1 (by omega) (by omega) (by omega)), hP 0 (Qc4 2 6 0 true ((Fld.rows p0.fields).flatten) (Fld.rows p0.fields) 6 true i1 0 (i1 * 6) (Fld.cells x1) (.agg [.str x1.name, iN x1.v.kind, iN x1.v.n, .str x1.v.s, .sl (Val.rows x1.v.list), .sl (Fld.rows x1.v.fields)]) rfl rfl (Fld.Qg gQ) (Fld.Qh p0.fields) (by decide) rfl), hP 9 (Q5k 2 6 (List.length p0.fields) (i1 : Int) i1 (by omega) (by omega) (by omega)), hV 1 [(2, Fld.rows p0.fields)] (Q1kf 2 6 true ((Fld.rows p0.fields).flatten) (Fld.rows p0.fields) (Fld.rows p0.fields) 5 i1 1 (i1 * 6 + 1) _ (.agg [iN x1.v.kind, iN x1.v.n, .str x1.v.s, .sl (Val.rows x1.v.list), .sl (Fld.rows x1.v.fields)]) rfl rfl (Fld.Qg gQ) (Fld.Qh p0.fields) (by decide) rfl rfl (Q157 (Fld.Qg gQ))), hS 0 true (Fld.Q7 p0.fields 6 rfl), hP 0 (Q26 i1 (by omega))] [aN (rec x1.v (szF gQ) (H.2.1 x1 (Q2l gQ)))] hr (by kernel_rfl)
theorem Q12i (p0 : Val) (H : Qib p0) (rec : Qch p0) : ∀ (r1 : List Fld) (i1 : Nat), List.drop i1 p0.fields = r1 → Qbt p0 (Qh9 p0 i1) (Q185 p0 r1 i1)
 | [], i1, hd => by
  have hc1 : (decide ((i1 : Int) < ((List.length p0.fields) : Int))) = false := by have := Q1c hd; simp; omega
  show Qbt p0 _ ()
  exact Q1ej p0 H rec i1 hc1
 | x1 :: r1, i1, hd => by
  obtain ⟨gQ, iF, hd'⟩ := Q19 hd
  have hc1 : (decide ((i1 : Int) < ((List.length p0.fields) : Int))) = true := by simp; omega
  show Qbt p0 _ ()
  exact Qwg p0 (fun r hr => Q1bu p0 H rec x1 i1 gQ iF hc1 hr) _ (Q12i p0 H rec r1 _ hd')
theorem Q2c6 (p0 : Val) (H : Qp2 p0) (rec : Qch p0) : Q0 G (Q1lv p0) (Q1hc p0) := by
  unfold Q1hc
  rw [Q2as]
  have hl0 := Q12h p0 ((Qjn p0 H).2.1) rec p0.list 0 (by simp)
  obtain ⟨z0, gq, hl0⟩ := hl0
  have hl1 := Q12i p0 ((Qjn p0 H).2.2.2.1) rec p0.fields 0 (by simp)
  obtain ⟨z1, iR, hl1⟩ := hl1
  exact Q5 (fn := Ir.K53) (by kernel_rfl) VOK.nil [hQ (Val.Q7 p0.list 5 rfl), hS 0 true (Val.Q7 p0.list 5 rfl), hQ (Fld.Q7 p0.fields 6 rfl), hS 0 true (Fld.Q7 p0.fields 6 rfl), hS 0 true (Val.Q7 p0.list 5 rfl), hQ (Val.Q8 p0.list).symm, hQ (Fld.Q8 p0.fields).symm] [aV [(0, Val.rows p0.list)] (Qaf (G := G) (f := 222) (sz := 5) (bytes := 80) rfl (Val.Q8 p0.list) (Val.Q7 p0.list 5 rfl) (Qjn p0 H).1), aV [(2, Val.rows p0.list)] hl0, aV [(0, Fld.rows p0.fields)] (Qaf (G := G) (f := 185) (sz := 6) (bytes := 96) rfl (Fld.Q8 p0.fields) (Fld.Q7 p0.fields 6 rfl) (Qjn p0 H).2.2.1), aV [(2, Fld.rows p0.fields), (3, Val.rows p0.list)] hl1] (by kernel_rfl)
theorem Q1zz : ∀ (k : Nat) (p0 : Val), SizeOf.sizeOf p0 < k → Qp2 p0 → Q0 G (Q1lv p0) (Q1hc p0)
  | 0, _, h, _ => absurd h (Nat.not_lt_zero _)
  | k + 1, p0, h, H => Q2c6 p0 H (fun q hq hH => Q1zz k q (by omega) hH)
theorem Q1s7 (p0 : Val) (H : Qp2 p0) : Q0 G (Q1lv p0) (Q1hc p0) := Q1zz _ p0 (Nat.lt_succ_self _) H
inductive Q15s where
  | k0
  | k1 (q0 : Val)
def Q8i (p0 : Val) (p1 : BA) : List Fld → Nat → Q15s
 | [], _i0 =>
  (.k0)
 | x0 :: r0, i0 =>
  bif (sEq x0.name p1) then
   (.k1 x0.v)
  else
   Q8i p0 p1 r0 (i0 + 1)
def Q1fw (p0 : Val) (p1 : BA) (i0 : Nat) : List PV :=
  [.un, .str p1, .un, .un, .bx 0 0] ++ nuns 7 ++ [.sl (Fld.rows p0.fields), iN ((List.length p0.fields) : Int), iN (i0 : Int)] ++ nuns 12
def Q1gj (_p0 : Val) (_p1 : BA) (_i0 : Nat) : List Ob :=
  [⟨5, 0, true, [iN 0, iN 0, .str eB, .ms 1 5 0 0, .ms 2 6 0 0]⟩, ⟨5, 0, true, []⟩, ⟨6, 0, true, []⟩]
def Qd0 (p0 : Val) (p1 : BA) (i0 : Nat) : En := .loop 0 Ir.Ql8 Ir.Q1p6 (Q1fw p0 p1 i0) (Q1gj p0 p1 i0)
def Qri (_p0 : Val) (_p1 : BA) (z : Nat → PV) (_zo : Nat → List PV) : St :=
  ⟨[z 0, z 1, z 2, z 3, .bx 0 0] ++ zr z 5 22, [(0, ⟨5, 0, true, [iN 0, iN 0, .str eB, .ms 1 5 0 0, .ms 2 6 0 0]⟩), (1, ⟨5, 0, true, []⟩), (2, ⟨6, 0, true, []⟩)], 67⟩
def Qrj (_p0 : Val) (_p1 : BA) (q0 : Val) (z : Nat → PV) (zo : Nat → List PV) : St :=
  ⟨[z 0, z 1, z 2, z 3, .bx 0 0, .bool true] ++ zr z 6 21, [(0, ⟨5, 0, true, (Val.cells q0)⟩), (1, ⟨5, 0, true, zo 1⟩), (2, ⟨6, 0, true, zo 2⟩), (195, ⟨6, 0, true, zo 195⟩)], 899⟩
def Qdk (p0 : Val) (p1 : BA) (e : En) : Q15s → Prop
  | .k0 => ∃ z zo, Q0 G e (.st (.exit 0) (Qri p0 p1 z zo))
  | .k1 q0 => ∃ z zo, Q0 G e (.st .ret (Qrj p0 p1 q0 z zo))
theorem Qwe (p0 : Val) (p1 : BA) {e e' : En} (h : ∀ r, Q0 G e r → Q0 G e' r) : ∀ q, Qdk p0 p1 e q → Qdk p0 p1 e' q
  | .k0, ⟨z, zo, hz⟩ => ⟨z, zo, h _ hz⟩
  | .k1 _, ⟨z, zo, hz⟩ => ⟨z, zo, h _ hz⟩
def Qd5 (p0 : Val) (_p1 : BA) : Prop := (List.length p0.fields ≤ 4611686018427387904) ∧ (∀ x0 ∈ p0.fields, Qp2 x0.v) ∧ True
def Qtd (p0 : Val) (p1 : BA) (i0 : Nat) : List PV :=
  [.un, .str p1] ++ nuns 10 ++ [.sl (Fld.rows p0.fields), iN ((List.length p0.fields) : Int), iN (i0 : Int), .bool false]
def Qn3 (_p0 : Val) (_p1 : BA) (_i0 : Nat) : List (Nat × List PV) :=
  []
theorem Q1ef (p0 : Val) (p1 : BA) (_H : Qd5 p0 p1) (i0 : Nat) (bG : (decide ((i0 : Int) < ((List.length p0.fields) : Int))) = false) : Qdk p0 p1 (Qd0 p0 p1 i0) (.k0) := by
 exact ⟨(envF (Qtd p0 p1 i0)), (zoF (Qn3 p0 p1 i0)), Qd VOK.nil (x := ((.exit 0), Qri p0 p1 (envF (Qtd p0 p1 i0)) (zoF (Qn3 p0 p1 i0)))) [hB 0 bG] [] (by kernel_rfl)⟩
def Qte (p0 : Val) (p1 : BA) (i0 : Nat) (x0 : Fld) : List PV :=
  [.un, .str p1] ++ nuns 5 ++ [.bx 195 0, .un, .un, .un, .un, .sl (Fld.rows p0.fields), iN ((List.length p0.fields) : Int), iN (i0 : Int), .bool true, .rf [.str x0.name, iN x0.v.kind, iN x0.v.n, .str x0.v.s, .sl (Val.rows x0.v.list), .sl (Fld.rows x0.v.fields)], .agg [.str x0.name, iN x0.v.kind, iN x0.v.n, .str x0.v.s, .sl (Val.rows x0.v.list), .sl (Fld.rows x0.v.fields)], .bx 195 0, .str x0.name, .str p1, .bool true, .bx 195 1, .agg [iN x0.v.kind, iN x0.v.n, .str x0.v.s, .sl (Val.rows x0.v.list), .sl (Fld.rows x0.v.fields)], .agg [iN x0.v.kind, iN x0.v.n, .str x0.v.s, .sl (Val.rows x0.v.list), .sl (Fld.rows x0.v.fields)]]
def Qn4 (_p0 : Val) (_p1 : BA) (_i0 : Nat) (x0 : Fld) : List (Nat × List PV) :=
  [(1, []), (2, []), (195, (Fld.cells x0))]
theorem Q1eg (p0 : Val) (p1 : BA) (H : Qd5 p0 p1) (x0 : Fld) (i0 : Nat) (bU : p0.fields[i0]? = some x0) (_dG : i0 < List.length p0.fields) (bG : (decide ((i0 : Int) < ((List.length p0.fields) : Int))) = true) (h0 : (sEq x0.name p1) = true) : Qdk p0 p1 (Qd0 p0 p1 i0) (.k1 x0.v) := by
 exact ⟨(envF (Qte p0 p1 i0 x0)), (zoF (Qn4 p0 p1 i0 x0)), Qd VOK.nil (x := (.ret, Qrj p0 p1 x0.v (envF (Qte p0 p1 i0 x0)) (zoF (Qn4 p0 p1 i0 x0)))) [hB 0 bG, hP 0 (Q2q 6 _ i0 _ (Fld.Qg bU) rfl), hB 6 h0] [aN (Q1s7 x0.v (H.2.1 x0 (Q2l bU)))] (by kernel_rfl)⟩
theorem Q1bp (p0 : Val) (p1 : BA) (H : Qd5 p0 p1) (x0 : Fld) (i0 : Nat) (bU : p0.fields[i0]? = some x0) (dG : i0 < List.length p0.fields) (bG : (decide ((i0 : Int) < ((List.length p0.fields) : Int))) = true) (h0 : (sEq x0.name p1) = false) {r : Rs} (hr : Q0 G (Qd0 p0 p1 (i0 + 1)) r) : Q0 G (Qd0 p0 p1 i0) r := by
 have hB0 := H.1
 exact Qc VOK.nil [hB 0 bG, hP 0 (Q2q 6 _ i0 _ (Fld.Qg bU) rfl), hB 6 h0, hP 0 (Q26 i0 (by omega))] [] hr (by kernel_rfl)
theorem Q12g (p0 : Val) (p1 : BA) (H : Qd5 p0 p1) : ∀ (r0 : List Fld) (i0 : Nat), List.drop i0 p0.fields = r0 → Qdk p0 p1 (Qd0 p0 p1 i0) (Q8i p0 p1 r0 i0)
 | [], i0, hd => by
  have bG : (decide ((i0 : Int) < ((List.length p0.fields) : Int))) = false := by have := Q1c hd; simp; omega
  rw [Q8i]
  exact Q1ef p0 p1 H i0 bG
 | x0 :: r0, i0, hd => by
  obtain ⟨bU, dG, hd'⟩ := Q19 hd
  have bG : (decide ((i0 : Int) < ((List.length p0.fields) : Int))) = true := by simp; omega
  rw [Q8i]
  cases h0 : (sEq x0.name p1) with
  | true =>
   exact Q1eg p0 p1 H x0 i0 bU dG bG h0
  | false =>
   exact Qwe p0 p1 (fun r hr => Q1bp p0 p1 H x0 i0 bU dG bG h0 hr) _ (Q12g p0 p1 H r0 _ hd')
def Qpb (p0 : Val) (p1 : BA) : Val × Bool :=
 bif (p0.kind == 5) then
  (match (Q8i p0 p1 p0.fields 0) with
  | .k0 => ((Val.mk 0 0 eB [] []), false)
  | .k1 jg => (jg, true))
 else
  ((Val.mk 0 0 eB [] []), false)
def Q287 (p0 : Val) (p1 : BA) : En := .call 184 [.agg (Val.cells p0), .str p1] []
def Q1y7 (p0 : Val) (p1 : BA) : Rs := .ret (.tup [.agg (Val.cells (Qpb p0 p1).1), .bool (Qpb p0 p1).2]) []
def Q1lb (p0 : Val) (p1 : BA) : Prop := (Qd5 p0 p1) ∧ True
theorem Q1o0 (p0 : Val) (p1 : BA) (H : Q1lb p0 p1) : Q0 G (Q287 p0 p1) (Q1y7 p0 p1) := by
 unfold Q1y7 Qpb
 cases h0 : (p0.kind == 5) with
 | true =>
  have hl1 := Q12g p0 p1 (H.1) p0.fields 0 (by simp)
  cases hr1 : (Q8i p0 p1 p0.fields 0) with
  | k0 =>
   rw [hr1] at hl1
   obtain ⟨z1, iR, hl1⟩ := hl1
   exact Q5 (fn := Ir.K4x) (by kernel_rfl) VOK.nil [hB 5 h0, hP 2 (Qw _ _ (Fld.Q8 p0.fields))] [aN hl1] (by kernel_rfl)
  | k1 jg =>
   rw [hr1] at hl1
   obtain ⟨z1, iR, hl1⟩ := hl1
   exact Q5 (fn := Ir.K4x) (by kernel_rfl) VOK.nil [hB 5 h0, hP 2 (Qw _ _ (Fld.Q8 p0.fields))] [aN hl1] (by kernel_rfl)
 | false =>
  exact Q5 (fn := Ir.K4x) (by kernel_rfl) VOK.nil [hB 5 h0] [] (by kernel_rfl)
def Qon (p0 : List Val) : Val :=
 (Val.mk 4 0 eB p0 [])
def Q289 (p0 : List Val) : En := .call 256 [.sl (Val.rows p0)] []
def Q1y9 (p0 : List Val) : Rs := .ret (.agg (Val.cells (Qon p0))) []
def Qp1 (p0 : List Val) : Prop := (Qp2 (Val.mk 4 0 eB p0 [])) ∧ True
theorem Qym (p0 : List Val) (H : Qp1 p0) : Q0 G (Q289 p0) (Q1y9 p0) := by
 unfold Q1y9 Qon
 exact Q5 (fn := Ir.K4z) (by kernel_rfl) VOK.nil [] [aN (Q1s7 (Val.mk 4 0 eB p0 []) H.1)] (by kernel_rfl)
end Go.Proofs.YtimjjohlpnkacaaGreat
end

section
/- What building a map computes (printed by a program). -/
namespace Go.Proofs.YtimjjohlpnkacaaGreat
open Go.Pv
def Q1s0 (p0 : BA) (p1 : BA) : Int :=
 (sCmp p0 p1)
def Q285 (p0 : BA) (p1 : BA) : En := .call 188 [.str p0, .str p1] []
def Q1y5 (p0 : BA) (p1 : BA) : Rs := .ret (iN (Q1s0 p0 p1)) []
theorem Q2dq (p0 : BA) (p1 : BA) : Q0 G (Q285 p0 p1) (Q1y5 p0 p1) := by
 unfold Q1y5 Q1s0
 exact Q5 (fn := Ir.K4v) (by kernel_rfl) VOK.nil [] [aN (Q1o3 p0 p1)] (by kernel_rfl)
def Q13a (p0 : Fld) (p1 : Fld) : Int :=
 (Q1s0 p0.name p1.name)
def Q28a (p0 : Fld) (p1 : Fld) : En := .call 187 [.agg (Fld.cells p0), .agg (Fld.cells p1)] []
def Q1yb (p0 : Fld) (p1 : Fld) : Rs := .ret (iN (Q13a p0 p1)) []
theorem Q212 (p0 : Fld) (p1 : Fld) : Q0 G (Q28a p0 p1) (Q1yb p0 p1) := by
 unfold Q1yb Q13a
 exact Q5 (fn := Ir.K51) (by kernel_rfl) VOK.nil [] [aN (Q2dq p0.name p1.name)] (by kernel_rfl)
abbrev zF : Fld := (Fld.mk eB (Val.mk 0 0 eB [] []))
def Q4s (n0 : Nat) (p1 : Int) (p2 : Int) (bC : Int) : Nat → (List Fld) → Int → List Fld
 | 0, bg, _bq => bg
 | k1 + 1, bg, bq =>
  bif (decide (p1 < bq)) then
   bif (decide ((Q13a (List.getD bg (Int.toNat bq) zF) (List.getD bg (Int.toNat (bq - 1)) zF)) < 0)) then
    Q4s n0 p1 p2 bC k1 (List.set (List.set bg (Int.toNat bq) (List.getD bg (Int.toNat (bq - 1)) zF)) (Int.toNat (bq - 1)) (List.getD bg (Int.toNat bq) zF)) (bq - 1)
   else
    bg
  else
   bg
def Q1ft (n0 : Nat) (p1 : Int) (p2 : Int) (bC : Int) (_bg : List Fld) (bq : Int) : List PV :=
  [.ms 0 6 0 n0, iN p1, iN p2, .fn 187 [] [], .un, .un, .un, .un, iN bC, iN bq] ++ nuns 43
def Qzh (_n0 : Nat) (_p1 : Int) (_p2 : Int) (_bC : Int) (bg : List Fld) (_bq : Int) : List Ob :=
  [⟨6, 0, false, (Fld.rows bg).flatten⟩]
def Qbh (n0 : Nat) (p1 : Int) (p2 : Int) (bC : Int) (bg : List Fld) (bq : Int) : En := .loop 1 Ir.Ql5 Ir.Q1p3 (Q1ft n0 p1 p2 bC bg bq) (Qzh n0 p1 p2 bC bg bq)
def Qbv (n0 : Nat) (p1 : Int) (p2 : Int) (bC : Int) (q0 : List Fld) (z : Nat → PV) (_zo : Nat → List PV) : St :=
  ⟨[.ms 0 6 0 n0, iN p1, iN p2, .fn 187 [] [], z 4, z 5, z 6, z 7, iN bC] ++ zr z 9 44, [(0, ⟨6, 0, false, (Fld.rows q0).flatten⟩)], 1089⟩
theorem Qx5 (n0 : Nat) (p1 : Int) (p2 : Int) (bC : Int) (bg : List Fld) (bq : Int) : VOK (Go.Pv.look (number 0 (Qzh n0 p1 p2 bC bg bq))) [(0, Fld.rows bg)] := (VOK.cons (show Seen _ _ from Q3o (ob := ⟨6, 0, false, (Fld.rows bg).flatten⟩) (Fld.Q7 bg 6 rfl)) VOK.nil)
def Qdj (n0 : Nat) (p1 : Int) (p2 : Int) (bC : Int) (e : En) (q : List Fld) : Prop := ∃ z zo, Q0 G e (.st (.exit 2) (Qbv n0 p1 p2 bC q z zo))
theorem Qwc (n0 : Nat) (p1 : Int) (p2 : Int) (bC : Int) {e e' : En} (h : ∀ r, Q0 G e r → Q0 G e' r) : ∀ q, Qdj n0 p1 p2 bC e q → Qdj n0 p1 p2 bC e' q
  | _, ⟨z, zo, hz⟩ => ⟨z, zo, h _ hz⟩
theorem Q1bn (n0 : Nat) (p1 : Int) (p2 : Int) (bC : Int) (bg : List Fld) (bq : Int) (gB : 0 ≤ p1) (_gD : p1 ≤ bq) (fQ : bq < n0) (gH : (n0 : Int) ≤ 20) (fM : List.length bg = n0) (h0 : (decide (p1 < bq)) = true) (h1 : (decide ((Q13a (List.getD bg (Int.toNat bq) zF) (List.getD bg (Int.toNat (bq - 1)) zF)) < 0)) = true) {r : Rs} (hr : Q0 G (Qbh n0 p1 p2 bC (List.set (List.set bg (Int.toNat bq) (List.getD bg (Int.toNat (bq - 1)) zF)) (Int.toNat (bq - 1)) (List.getD bg (Int.toNat bq) zF)) (bq - 1)) r) : Q0 G (Qbh n0 p1 p2 bC bg bq) r := by
 have e0 := of_decide_eq_true h0; have e1 := of_decide_eq_true h1
 exact Qc (Qx5 n0 p1 p2 bC bg bq) [hB 2 h0, hP 4 (Q5k 0 6 n0 bq (Int.toNat bq) rfl (by omega) (by omega)), hP 0 (Qc4 0 6 0 false ((Fld.rows bg).flatten) (Fld.rows bg) 6 true (Int.toNat bq) 0 ((Int.toNat bq) * 6) (Fld.cells (List.getD bg (Int.toNat bq) zF)) (.agg [.str (List.getD bg (Int.toNat bq) zF).name, iN (List.getD bg (Int.toNat bq) zF).v.kind, iN (List.getD bg (Int.toNat bq) zF).v.n, .str (List.getD bg (Int.toNat bq) zF).v.s, .sl (Val.rows (List.getD bg (Int.toNat bq) zF).v.list), .sl (Fld.rows (List.getD bg (Int.toNat bq) zF).v.fields)]) rfl rfl (Fld.Qg (Q5x bg (Int.toNat bq) zF (by omega))) (Fld.Qh bg) (by decide) rfl), hP 2 (w_ok (bq - 1) (by omega)), hP 0 (Q5k 0 6 n0 (bq - 1) (Int.toNat (bq - 1)) rfl (by omega) (by omega)), hP 0 (Qc4 0 6 0 false ((Fld.rows bg).flatten) (Fld.rows bg) 6 true (Int.toNat (bq - 1)) 0 ((Int.toNat (bq - 1)) * 6) (Fld.cells (List.getD bg (Int.toNat (bq - 1)) zF)) (.agg [.str (List.getD bg (Int.toNat (bq - 1)) zF).name, iN (List.getD bg (Int.toNat (bq - 1)) zF).v.kind, iN (List.getD bg (Int.toNat (bq - 1)) zF).v.n, .str (List.getD bg (Int.toNat (bq - 1)) zF).v.s, .sl (Val.rows (List.getD bg (Int.toNat (bq - 1)) zF).v.list), .sl (Fld.rows (List.getD bg (Int.toNat (bq - 1)) zF).v.fields)]) rfl rfl (Fld.Qg (Q5x bg (Int.toNat (bq - 1)) zF (by omega))) (Fld.Qh bg) (by decide) rfl), hB 1 h1, hP 5 (w_ok (bq - 1) (by omega)), hP 2 (w_ok (bq - 1) (by omega)), hP 0 (Q5k 0 6 n0 (bq - 1) (Int.toNat (bq - 1)) rfl (by omega) (by omega)), hP 0 (Qc4 0 6 0 false ((Fld.rows bg).flatten) (Fld.rows bg) 6 true (Int.toNat (bq - 1)) 0 ((Int.toNat (bq - 1)) * 6) (Fld.cells (List.getD bg (Int.toNat (bq - 1)) zF)) (.agg [.str (List.getD bg (Int.toNat (bq - 1)) zF).name, iN (List.getD bg (Int.toNat (bq - 1)) zF).v.kind, iN (List.getD bg (Int.toNat (bq - 1)) zF).v.n, .str (List.getD bg (Int.toNat (bq - 1)) zF).v.s, .sl (Val.rows (List.getD bg (Int.toNat (bq - 1)) zF).v.list), .sl (Fld.rows (List.getD bg (Int.toNat (bq - 1)) zF).v.fields)]) rfl rfl (Fld.Qg (Q5x bg (Int.toNat (bq - 1)) zF (by omega))) (Fld.Qh bg) (by decide) rfl), hP 2 (Q5k 0 6 n0 bq (Int.toNat bq) rfl (by omega) (by omega)), hP 0 (Qc4 0 6 0 false ((Fld.rows bg).flatten) (Fld.rows bg) 6 true (Int.toNat bq) 0 ((Int.toNat bq) * 6) (Fld.cells (List.getD bg (Int.toNat bq) zF)) (.agg [.str (List.getD bg (Int.toNat bq) zF).name, iN (List.getD bg (Int.toNat bq) zF).v.kind, iN (List.getD bg (Int.toNat bq) zF).v.n, .str (List.getD bg (Int.toNat bq) zF).v.s, .sl (Val.rows (List.getD bg (Int.toNat bq) zF).v.list), .sl (Fld.rows (List.getD bg (Int.toNat bq) zF).v.fields)]) rfl rfl (Fld.Qg (Q5x bg (Int.toNat bq) zF (by omega))) (Fld.Qh bg) (by decide) rfl), hP 0 (Q5k 0 6 n0 bq (Int.toNat bq) rfl (by omega) (by omega)), hV 0 [(0, Fld.rows (List.set bg (Int.toNat bq) (List.getD bg (Int.toNat (bq - 1)) zF)))] (Q1kf 0 6 false ((Fld.rows bg).flatten) (Fld.rows bg) (Fld.rows (List.set bg (Int.toNat bq) (List.getD bg (Int.toNat (bq - 1)) zF))) 6 (Int.toNat bq) 0 ((Int.toNat bq) * 6) _ (.agg [.str (List.getD bg (Int.toNat (bq - 1)) zF).name, iN (List.getD bg (Int.toNat (bq - 1)) zF).v.kind, iN (List.getD bg (Int.toNat (bq - 1)) zF).v.n, .str (List.getD bg (Int.toNat (bq - 1)) zF).v.s, .sl (Val.rows (List.getD bg (Int.toNat (bq - 1)) zF).v.list), .sl (Fld.rows (List.getD bg (Int.toNat (bq - 1)) zF).v.fields)]) rfl rfl (Fld.Qg (Q5x bg (Int.toNat bq) zF (by omega))) (Fld.Qh bg) (by decide) rfl rfl (Fld.Qyc bg (Int.toNat bq) (List.getD bg (Int.toNat (bq - 1)) zF))), hS 0 false (Fld.Q7 (List.set bg (Int.toNat bq) (List.getD bg (Int.toNat (bq - 1)) zF)) 6 rfl), hP 0 (Q5k 0 6 n0 (bq - 1) (Int.toNat (bq - 1)) rfl (by have f0 := (Q6n fM (Int.toNat bq) (List.getD bg (Int.toNat (bq - 1)) zF)); omega) (by have f0 := (Q6n fM (Int.toNat bq) (List.getD bg (Int.toNat (bq - 1)) zF)); omega)), hV 0 [(0, Fld.rows (List.set (List.set bg (Int.toNat bq) (List.getD bg (Int.toNat (bq - 1)) zF)) (Int.toNat (bq - 1)) (List.getD bg (Int.toNat bq) zF)))] (Q1kf 0 6 false ((Fld.rows (List.set bg (Int.toNat bq) (List.getD bg (Int.toNat (bq - 1)) zF))).flatten) (Fld.rows (List.set bg (Int.toNat bq) (List.getD bg (Int.toNat (bq - 1)) zF))) (Fld.rows (List.set (List.set bg (Int.toNat bq) (List.getD bg (Int.toNat (bq - 1)) zF)) (Int.toNat (bq - 1)) (List.getD bg (Int.toNat bq) zF))) 6 (Int.toNat (bq - 1)) 0 ((Int.toNat (bq - 1)) * 6) _ (.agg [.str (List.getD bg (Int.toNat bq) zF).name, iN (List.getD bg (Int.toNat bq) zF).v.kind, iN (List.getD bg (Int.toNat bq) zF).v.n, .str (List.getD bg (Int.toNat bq) zF).v.s, .sl (Val.rows (List.getD bg (Int.toNat bq) zF).v.list), .sl (Fld.rows (List.getD bg (Int.toNat bq) zF).v.fields)]) rfl rfl (Fld.Qg (Q5x (List.set bg (Int.toNat bq) (List.getD bg (Int.toNat (bq - 1)) zF)) (Int.toNat (bq - 1)) zF (by have f0 := (Q6n fM (Int.toNat bq) (List.getD bg (Int.toNat (bq - 1)) zF)); try simp only [List.length_set]; omega))) (Fld.Qh (List.set bg (Int.toNat bq) (List.getD bg (Int.toNat (bq - 1)) zF))) (by decide) rfl rfl (Fld.Qyc (List.set bg (Int.toNat bq) (List.getD bg (Int.toNat (bq - 1)) zF)) (Int.toNat (bq - 1)) (List.getD bg (Int.toNat bq) zF))), hS 0 false (Fld.Q7 (List.set (List.set bg (Int.toNat bq) (List.getD bg (Int.toNat (bq - 1)) zF)) (Int.toNat (bq - 1)) (List.getD bg (Int.toNat bq) zF)) 6 rfl), hP 1 (w_ok (bq - 1) (by have f0 := (Q6n (Q6n fM (Int.toNat bq) (List.getD bg (Int.toNat (bq - 1)) zF)) (Int.toNat (bq - 1)) (List.getD bg (Int.toNat bq) zF)); omega))] [aN (Q212 (List.getD bg (Int.toNat bq) zF) (List.getD bg (Int.toNat (bq - 1)) zF))] hr (by kernel_rfl)
def Qt9 (n0 : Nat) (p1 : Int) (_p2 : Int) (_bC : Int) (bg : List Fld) (bq : Int) : List PV :=
  nuns 9 ++ [iN bq] ++ nuns 8 ++ [iN bq, iN p1, .bool true, .bool true, .fn 187 [] [], .ms 0 6 0 n0, iN bq, .bx 0 ((Int.toNat bq) * 6), .agg [.str (List.getD bg (Int.toNat bq) zF).name, iN (List.getD bg (Int.toNat bq) zF).v.kind, iN (List.getD bg (Int.toNat bq) zF).v.n, .str (List.getD bg (Int.toNat bq) zF).v.s, .sl (Val.rows (List.getD bg (Int.toNat bq) zF).v.list), .sl (Fld.rows (List.getD bg (Int.toNat bq) zF).v.fields)], .ms 0 6 0 n0, iN bq, iN (bq - 1), .bx 0 ((Int.toNat (bq - 1)) * 6), .agg [.str (List.getD bg (Int.toNat (bq - 1)) zF).name, iN (List.getD bg (Int.toNat (bq - 1)) zF).v.kind, iN (List.getD bg (Int.toNat (bq - 1)) zF).v.n, .str (List.getD bg (Int.toNat (bq - 1)) zF).v.s, .sl (Val.rows (List.getD bg (Int.toNat (bq - 1)) zF).v.list), .sl (Fld.rows (List.getD bg (Int.toNat (bq - 1)) zF).v.fields)], iN (Q13a (List.getD bg (Int.toNat bq) zF) (List.getD bg (Int.toNat (bq - 1)) zF)), .bool false, .bool false]
def Qmz (_n0 : Nat) (_p1 : Int) (_p2 : Int) (_bC : Int) (_bg : List Fld) (_bq : Int) : List (Nat × List PV) :=
  []
theorem Q1eb (n0 : Nat) (p1 : Int) (p2 : Int) (bC : Int) (bg : List Fld) (bq : Int) (gB : 0 ≤ p1) (_gD : p1 ≤ bq) (fQ : bq < n0) (gH : (n0 : Int) ≤ 20) (fM : List.length bg = n0) (h0 : (decide (p1 < bq)) = true) (h1 : (decide ((Q13a (List.getD bg (Int.toNat bq) zF) (List.getD bg (Int.toNat (bq - 1)) zF)) < 0)) = false) : Qdj n0 p1 p2 bC (Qbh n0 p1 p2 bC bg bq) bg := by
 have e0 := of_decide_eq_true h0; have e1 := of_decide_eq_false h1
 exact ⟨(envF (Qt9 n0 p1 p2 bC bg bq)), (zoF (Qmz n0 p1 p2 bC bg bq)), Qd (Qx5 n0 p1 p2 bC bg bq) (x := ((.exit 2), Qbv n0 p1 p2 bC bg (envF (Qt9 n0 p1 p2 bC bg bq)) (zoF (Qmz n0 p1 p2 bC bg bq)))) [hB 2 h0, hP 4 (Q5k 0 6 n0 bq (Int.toNat bq) rfl (by omega) (by omega)), hP 0 (Qc4 0 6 0 false ((Fld.rows bg).flatten) (Fld.rows bg) 6 true (Int.toNat bq) 0 ((Int.toNat bq) * 6) (Fld.cells (List.getD bg (Int.toNat bq) zF)) (.agg [.str (List.getD bg (Int.toNat bq) zF).name, iN (List.getD bg (Int.toNat bq) zF).v.kind, iN (List.getD bg (Int.toNat bq) zF).v.n, .str (List.getD bg (Int.toNat bq) zF).v.s, .sl (Val.rows (List.getD bg (Int.toNat bq) zF).v.list), .sl (Fld.rows (List.getD bg (Int.toNat bq) zF).v.fields)]) rfl rfl (Fld.Qg (Q5x bg (Int.toNat bq) zF (by omega))) (Fld.Qh bg) (by decide) rfl), hP 2 (w_ok (bq - 1) (by omega)), hP 0 (Q5k 0 6 n0 (bq - 1) (Int.toNat (bq - 1)) rfl (by omega) (by omega)), hP 0 (Qc4 0 6 0 false ((Fld.rows bg).flatten) (Fld.rows bg) 6 true (Int.toNat (bq - 1)) 0 ((Int.toNat (bq - 1)) * 6) (Fld.cells (List.getD bg (Int.toNat (bq - 1)) zF)) (.agg [.str (List.getD bg (Int.toNat (bq - 1)) zF).name, iN (List.getD bg (Int.toNat (bq - 1)) zF).v.kind, iN (List.getD bg (Int.toNat (bq - 1)) zF).v.n, .str (List.getD bg (Int.toNat (bq - 1)) zF).v.s, .sl (Val.rows (List.getD bg (Int.toNat (bq - 1)) zF).v.list), .sl (Fld.rows (List.getD bg (Int.toNat (bq - 1)) zF).v.fields)]) rfl rfl (Fld.Qg (Q5x bg (Int.toNat (bq - 1)) zF (by omega))) (Fld.Qh bg) (by decide) rfl), hB 1 h1] [aN (Q212 (List.getD bg (Int.toNat bq) zF) (List.getD bg (Int.toNat (bq - 1)) zF))] (by kernel_rfl)⟩
def Qta (_n0 : Nat) (p1 : Int) (_p2 : Int) (_bC : Int) (_bg : List Fld) (bq : Int) : List PV :=
  nuns 9 ++ [iN bq] ++ nuns 8 ++ [iN bq, iN p1, .bool false, .bool false, .tup [], .tup [], .tup [], .tup [], .tup [], .tup [], .tup [], .tup [], .tup [], .tup [], .tup [], .tup [], .bool false]
def Qn0 (_n0 : Nat) (_p1 : Int) (_p2 : Int) (_bC : Int) (_bg : List Fld) (_bq : Int) : List (Nat × List PV) :=
  []
theorem Q1ec (n0 : Nat) (p1 : Int) (p2 : Int) (bC : Int) (bg : List Fld) (bq : Int) (_gB : 0 ≤ p1) (_gD : p1 ≤ bq) (_fQ : bq < n0) (_gH : (n0 : Int) ≤ 20) (_fM : List.length bg = n0) (h0 : (decide (p1 < bq)) = false) : Qdj n0 p1 p2 bC (Qbh n0 p1 p2 bC bg bq) bg := by
 exact ⟨(envF (Qta n0 p1 p2 bC bg bq)), (zoF (Qn0 n0 p1 p2 bC bg bq)), Qd (Qx5 n0 p1 p2 bC bg bq) (x := ((.exit 2), Qbv n0 p1 p2 bC bg (envF (Qta n0 p1 p2 bC bg bq)) (zoF (Qn0 n0 p1 p2 bC bg bq)))) [hB 2 h0] [] (by kernel_rfl)⟩
theorem Q12e (n0 : Nat) (p1 : Int) (p2 : Int) (bC : Int) : ∀ (k1 : Nat) (bg : List Fld) (bq : Int), 0 ≤ p1 → p1 ≤ bq → bq < n0 → (n0 : Int) ≤ 20 → List.length bg = n0 → Int.toNat bq < k1 → Qdj n0 p1 p2 bC (Qbh n0 p1 p2 bC bg bq) (Q4s n0 p1 p2 bC k1 bg bq)
 | 0, bg, bq, _, _, _, _, _, hm => absurd hm (Nat.not_lt_zero _)
 | k1 + 1, bg, bq, gB, gD, fQ, gH, fM, hm => by
  rw [Q4s]
  cases h0 : (decide (p1 < bq)) with
  | true =>
   have e0 := of_decide_eq_true h0
   cases h1 : (decide ((Q13a (List.getD bg (Int.toNat bq) zF) (List.getD bg (Int.toNat (bq - 1)) zF)) < 0)) with
   | true =>
    have e1 := of_decide_eq_true h1
    exact Qwc n0 p1 p2 bC (fun r hr => Q1bn n0 p1 p2 bC bg bq gB gD fQ gH fM h0 h1 hr) _ (Q12e n0 p1 p2 bC k1 (List.set (List.set bg (Int.toNat bq) (List.getD bg (Int.toNat (bq - 1)) zF)) (Int.toNat (bq - 1)) (List.getD bg (Int.toNat bq) zF)) (bq - 1) (by have f0 := (Q6n (Q6n fM (Int.toNat bq) (List.getD bg (Int.toNat (bq - 1)) zF)) (Int.toNat (bq - 1)) (List.getD bg (Int.toNat bq) zF)); omega) (by have f0 := (Q6n (Q6n fM (Int.toNat bq) (List.getD bg (Int.toNat (bq - 1)) zF)) (Int.toNat (bq - 1)) (List.getD bg (Int.toNat bq) zF)); omega) (by have f0 := (Q6n (Q6n fM (Int.toNat bq) (List.getD bg (Int.toNat (bq - 1)) zF)) (Int.toNat (bq - 1)) (List.getD bg (Int.toNat bq) zF)); omega) (by have f0 := (Q6n (Q6n fM (Int.toNat bq) (List.getD bg (Int.toNat (bq - 1)) zF)) (Int.toNat (bq - 1)) (List.getD bg (Int.toNat bq) zF)); omega) (Q6n (Q6n fM (Int.toNat bq) (List.getD bg (Int.toNat (bq - 1)) zF)) (Int.toNat (bq - 1)) (List.getD bg (Int.toNat bq) zF)) (by have f0 := (Q6n (Q6n fM (Int.toNat bq) (List.getD bg (Int.toNat (bq - 1)) zF)) (Int.toNat (bq - 1)) (List.getD bg (Int.toNat bq) zF)); omega))
   | false =>
    exact Q1eb n0 p1 p2 bC bg bq gB gD fQ gH fM h0 h1
  | false =>
   exact Q1ec n0 p1 p2 bC bg bq gB gD fQ gH fM h0
theorem Q4t (n0 : Nat) (p1 : Int) (p2 : Int) (bC : Int) : ∀ (k1 : Nat) (bg : List Fld) (bq : Int), List.length bg = n0 → List.length (Q4s n0 p1 p2 bC k1 bg bq) = n0
 | 0, bg, bq, fM => by rw [Q4s]; exact fM
 | k1 + 1, bg, bq, fM => by
  rw [Q4s]
  cases h0 : (decide (p1 < bq)) with
  | true =>
   cases h1 : (decide ((Q13a (List.getD bg (Int.toNat bq) zF) (List.getD bg (Int.toNat (bq - 1)) zF)) < 0)) with
   | true =>
    exact Q4t n0 p1 p2 bC k1 (List.set (List.set bg (Int.toNat bq) (List.getD bg (Int.toNat (bq - 1)) zF)) (Int.toNat (bq - 1)) (List.getD bg (Int.toNat bq) zF)) (bq - 1) (Q6n (Q6n fM (Int.toNat bq) (List.getD bg (Int.toNat (bq - 1)) zF)) (Int.toNat (bq - 1)) (List.getD bg (Int.toNat bq) zF))
   | false =>
    exact fM
  | false =>
   exact fM
def Q59 (n0 : Nat) (p1 : Int) (p2 : Int) : Nat → Int → (List Fld) → List Fld
 | 0, _bC, ah => ah
 | k0 + 1, bC, ah =>
  bif (decide (bC < p2)) then
   Q59 n0 p1 p2 k0 (bC + 1) (Q4s n0 p1 p2 bC ((Int.toNat bC) + 1) ah bC)
  else
   ah
def Q1fs (n0 : Nat) (p1 : Int) (p2 : Int) (bC : Int) (_ah : List Fld) : List PV :=
  [.ms 0 6 0 n0, iN p1, iN p2, .fn 187 [] [], .un, .un, .un, .un, iN bC] ++ nuns 44
def Qzg (_n0 : Nat) (_p1 : Int) (_p2 : Int) (_bC : Int) (ah : List Fld) : List Ob :=
  [⟨6, 0, false, (Fld.rows ah).flatten⟩]
def Qh6 (n0 : Nat) (p1 : Int) (p2 : Int) (bC : Int) (ah : List Fld) : En := .loop 1 Ir.Ql4 Ir.Q1p2 (Q1fs n0 p1 p2 bC ah) (Qzg n0 p1 p2 bC ah)
def Qrf (_n0 : Nat) (_p1 : Int) (_p2 : Int) (q0 : List Fld) (z : Nat → PV) (_zo : Nat → List PV) : St :=
  ⟨zr z 0 53, [(0, ⟨6, 0, false, (Fld.rows q0).flatten⟩)], 193⟩
theorem Q16f (n0 : Nat) (p1 : Int) (p2 : Int) (bC : Int) (ah : List Fld) : VOK (Go.Pv.look (number 0 (Qzg n0 p1 p2 bC ah))) [(0, Fld.rows ah)] := (VOK.cons (show Seen _ _ from Q3o (ob := ⟨6, 0, false, (Fld.rows ah).flatten⟩) (Fld.Q7 ah 6 rfl)) VOK.nil)
def Qj5 (n0 : Nat) (p1 : Int) (p2 : Int) (e : En) (q : List Fld) : Prop := ∃ z zo, Q0 G e (.st (.exit 0) (Qrf n0 p1 p2 q z zo))
theorem Qwb (n0 : Nat) (p1 : Int) (p2 : Int) {e e' : En} (h : ∀ r, Q0 G e r → Q0 G e' r) : ∀ q, Qj5 n0 p1 p2 e q → Qj5 n0 p1 p2 e' q
  | _, ⟨z, zo, hz⟩ => ⟨z, zo, h _ hz⟩
theorem Q1bm (n0 : Nat) (p1 : Int) (p2 : Int) (bC : Int) (ah : List Fld) (aT : 0 ≤ p1) (fP : p1 < bC) (gU : p2 ≤ n0) (gV : (n0 : Int) ≤ 20) (fK : List.length ah = n0) (h0 : (decide (bC < p2)) = true) (z1 : Nat → PV) (iR : Nat → List PV) (hl1 : Q0 G (Qbh n0 p1 p2 bC ah bC) (.st (.exit 2) (Qbv n0 p1 p2 bC (Q4s n0 p1 p2 bC ((Int.toNat bC) + 1) ah bC) z1 iR))) {r : Rs} (hr : Q0 G (Qh6 n0 p1 p2 (bC + 1) (Q4s n0 p1 p2 bC ((Int.toNat bC) + 1) ah bC)) r) : Q0 G (Qh6 n0 p1 p2 bC ah) r := by
 have e0 := of_decide_eq_true h0
 exact Qc (Q16f n0 p1 p2 bC ah) [hB 2 h0, hS 0 false (Fld.Q7 (Q4s n0 p1 p2 bC ((Int.toNat bC) + 1) ah bC) 6 rfl), hP 3 (w_ok (bC + 1) (by have f0 := (Q4t n0 p1 p2 bC ((Int.toNat bC) + 1) ah bC fK); omega))] [aV [(0, Fld.rows (Q4s n0 p1 p2 bC ((Int.toNat bC) + 1) ah bC))] hl1] hr (by kernel_rfl)
def Qt8 (n0 : Nat) (p1 : Int) (p2 : Int) (bC : Int) (_ah : List Fld) : List PV :=
  [.ms 0 6 0 n0, iN p1, iN p2, .fn 187 [] [], .un, .un, .un, .un, iN bC, .un, .un, .un, iN bC, iN p2, .bool false]
def Qmy (_n0 : Nat) (_p1 : Int) (_p2 : Int) (_bC : Int) (_ah : List Fld) : List (Nat × List PV) :=
  []
theorem Q1ea (n0 : Nat) (p1 : Int) (p2 : Int) (bC : Int) (ah : List Fld) (_aT : 0 ≤ p1) (_fP : p1 < bC) (_gU : p2 ≤ n0) (_gV : (n0 : Int) ≤ 20) (_fK : List.length ah = n0) (h0 : (decide (bC < p2)) = false) : Qj5 n0 p1 p2 (Qh6 n0 p1 p2 bC ah) ah := by
 exact ⟨(envF (Qt8 n0 p1 p2 bC ah)), (zoF (Qmy n0 p1 p2 bC ah)), Qd (Q16f n0 p1 p2 bC ah) (x := ((.exit 0), Qrf n0 p1 p2 ah (envF (Qt8 n0 p1 p2 bC ah)) (zoF (Qmy n0 p1 p2 bC ah)))) [hB 2 h0] [] (by kernel_rfl)⟩
theorem Q12d (n0 : Nat) (p1 : Int) (p2 : Int) : ∀ (k0 : Nat) (bC : Int) (ah : List Fld), 0 ≤ p1 → p1 < bC → p2 ≤ n0 → (n0 : Int) ≤ 20 → List.length ah = n0 → Int.toNat (p2 - bC) < k0 → Qj5 n0 p1 p2 (Qh6 n0 p1 p2 bC ah) (Q59 n0 p1 p2 k0 bC ah)
 | 0, bC, ah, _, _, _, _, _, hm => absurd hm (Nat.not_lt_zero _)
 | k0 + 1, bC, ah, aT, fP, gU, gV, fK, hm => by
  rw [Q59]
  cases h0 : (decide (bC < p2)) with
  | true =>
   have e0 := of_decide_eq_true h0
   have hl1 := Q12e n0 p1 p2 bC ((Int.toNat bC) + 1) ah bC (by omega) (by omega) (by omega) (by omega) fK (by omega)
   obtain ⟨z1, iR, hl1⟩ := hl1
   exact Qwb n0 p1 p2 (fun r hr => Q1bm n0 p1 p2 bC ah aT fP gU gV fK h0 z1 iR hl1 hr) _ (Q12d n0 p1 p2 k0 (bC + 1) (Q4s n0 p1 p2 bC ((Int.toNat bC) + 1) ah bC) (by have f0 := (Q4t n0 p1 p2 bC ((Int.toNat bC) + 1) ah bC fK); omega) (by have f0 := (Q4t n0 p1 p2 bC ((Int.toNat bC) + 1) ah bC fK); omega) (by have f0 := (Q4t n0 p1 p2 bC ((Int.toNat bC) + 1) ah bC fK); omega) (by have f0 := (Q4t n0 p1 p2 bC ((Int.toNat bC) + 1) ah bC fK); omega) (Q4t n0 p1 p2 bC ((Int.toNat bC) + 1) ah bC fK) (by have f0 := (Q4t n0 p1 p2 bC ((Int.toNat bC) + 1) ah bC fK); omega))
  | false =>
   exact Q1ea n0 p1 p2 bC ah aT fP gU gV fK h0
theorem Qcn (n0 : Nat) (p1 : Int) (p2 : Int) : ∀ (k0 : Nat) (bC : Int) (ah : List Fld), List.length ah = n0 → List.length (Q59 n0 p1 p2 k0 bC ah) = n0
 | 0, bC, ah, fK => by rw [Q59]; exact fK
 | k0 + 1, bC, ah, fK => by
  rw [Q59]
  cases h0 : (decide (bC < p2)) with
  | true =>
   exact Qcn n0 p1 p2 k0 (bC + 1) (Q4s n0 p1 p2 bC ((Int.toNat bC) + 1) ah bC) (Q4t n0 p1 p2 bC ((Int.toNat bC) + 1) ah bC fK)
  | false =>
   exact fK
def Q2p (n0 : Nat) (p0 : List Fld) (p1 : Int) (p2 : Int) : List Fld :=
 (Q59 n0 p1 p2 ((Int.toNat (p2 - (p1 + 1))) + 1) (p1 + 1) p0)
def Q19t (n0 : Nat) (p0 : List Fld) (p1 : Int) (p2 : Int) : En := .call 253 [.ms 0 6 0 n0, iN p1, iN p2, .fn 187 [] []] [⟨6, 0, false, (Fld.rows p0).flatten⟩]
def Qu3 (n0 : Nat) (p0 : List Fld) (p1 : Int) (p2 : Int) : Rs := .ret (.tup []) [⟨6, 0, false, (Fld.rows (Q2p n0 p0 p1 p2)).flatten⟩]
theorem Q1t (n0 : Nat) (p0 : List Fld) (p1 : Int) (p2 : Int) (hn : List.length p0 = n0) : List.length (Q2p n0 p0 p1 p2) = n0 := by
 unfold Q2p
 have hz0_0 : List.length (Q59 n0 p1 p2 ((Int.toNat (p2 - (p1 + 1))) + 1) (p1 + 1) p0) = n0 := Qcn n0 p1 p2 ((Int.toNat (p2 - (p1 + 1))) + 1) (p1 + 1) p0 hn
 obtain ⟨R0, eR0⟩ : ∃ R, (Q59 n0 p1 p2 ((Int.toNat (p2 - (p1 + 1))) + 1) (p1 + 1) p0) = R := ⟨_, rfl⟩
 rw [eR0] at hz0_0 ⊢
 exact hz0_0
theorem Qux (n0 : Nat) (p0 : List Fld) (p1 : Int) (p2 : Int) (hn : List.length p0 = n0) (hq0 : 0 ≤ p1 ∧ p1 ≤ p2 ∧ p2 ≤ n0 ∧ (n0 : Int) ≤ 20) : Q0 G (Q19t n0 p0 p1 p2) (Qu3 n0 p0 p1 p2) := by
 unfold Qu3 Q2p
 have hl0 := Q12d n0 p1 p2 ((Int.toNat (p2 - (p1 + 1))) + 1) (p1 + 1) p0 (by omega) (by omega) (by omega) (by omega) hn (by omega)
 have hz0_0 : List.length (Q59 n0 p1 p2 ((Int.toNat (p2 - (p1 + 1))) + 1) (p1 + 1) p0) = n0 := Qcn n0 p1 p2 ((Int.toNat (p2 - (p1 + 1))) + 1) (p1 + 1) p0 hn
 obtain ⟨R0, eR0⟩ : ∃ R, (Q59 n0 p1 p2 ((Int.toNat (p2 - (p1 + 1))) + 1) (p1 + 1) p0) = R := ⟨_, rfl⟩
 rw [eR0] at hz0_0 hl0 ⊢
 obtain ⟨z0, gq, hl0⟩ := hl0
 exact Q5 (fn := Ir.K4t) (by kernel_rfl) (vk1 (Fld.Q7 p0 6 rfl)) [hP 1 (w_ok (p1 + 1) (by omega)), hS 0 false (Fld.Q7 R0 6 rfl)] [aV [(0, Fld.rows R0)] hl0] (by kernel_rfl)
def Q41 (n0 : Nat) (p1 : Int) : Nat → (List Fld) → Int → Int → (List Fld) × Int
 | 0, bC, ah, _aH => (bC, ah)
 | k0 + 1, bC, ah, aH =>
  bif (decide (aH ≤ p1)) then
   Q41 n0 p1 k0 (Q2p n0 bC ah aH) aH (aH + 20)
  else
   (bC, ah)
def Q1fu (n0 : Nat) (p1 : Int) (_bC : List Fld) (ah : Int) (aH : Int) : List PV :=
  [.ms 0 6 0 n0, iN p1, .fn 187 [] [], .un, .un, .un, iN 20, iN ah, iN aH] ++ nuns 54
def Qzi (_n0 : Nat) (_p1 : Int) (bC : List Fld) (_ah : Int) (_aH : Int) : List Ob :=
  [⟨6, 0, false, (Fld.rows bC).flatten⟩]
def Qh7 (n0 : Nat) (p1 : Int) (bC : List Fld) (ah : Int) (aH : Int) : En := .loop 1 Ir.Ql6 Ir.Q1p4 (Q1fu n0 p1 bC ah aH) (Qzi n0 p1 bC ah aH)
def Qrg (n0 : Nat) (p1 : Int) (q0 : List Fld) (q1 : Int) (z : Nat → PV) (_zo : Nat → List PV) : St :=
  ⟨[.ms 0 6 0 n0, iN p1, .fn 187 [] [], z 3, z 4, z 5, iN 20, iN q1] ++ zr z 8 55, [(0, ⟨6, 0, false, (Fld.rows q0).flatten⟩)], 193⟩
theorem Q16g (n0 : Nat) (p1 : Int) (bC : List Fld) (ah : Int) (aH : Int) : VOK (Go.Pv.look (number 0 (Qzi n0 p1 bC ah aH))) [(0, Fld.rows bC)] := (VOK.cons (show Seen _ _ from Q3o (ob := ⟨6, 0, false, (Fld.rows bC).flatten⟩) (Fld.Q7 bC 6 rfl)) VOK.nil)
def Qj6 (n0 : Nat) (p1 : Int) (e : En) (q : (List Fld) × Int) : Prop := ∃ z zo, Q0 G e (.st (.exit 0) (Qrg n0 p1 q.1 q.2 z zo))
theorem Qwd (n0 : Nat) (p1 : Int) {e e' : En} (h : ∀ r, Q0 G e r → Q0 G e' r) : ∀ q, Qj6 n0 p1 e q → Qj6 n0 p1 e' q
  | _, ⟨z, zo, hz⟩ => ⟨z, zo, h _ hz⟩
theorem Q1bo (n0 : Nat) (p1 : Int) (bC : List Fld) (ah : Int) (aH : Int) (aT : 0 ≤ ah) (_fP : ah ≤ n0) (gU : ah + 20 = aH) (gV : p1 = n0) (fK : (n0 : Int) ≤ 20) (fE : List.length bC = n0) (h0 : (decide (aH ≤ p1)) = true) {r : Rs} (hr : Q0 G (Qh7 n0 p1 (Q2p n0 bC ah aH) aH (aH + 20)) r) : Q0 G (Qh7 n0 p1 bC ah aH) r := by
 have e0 := of_decide_eq_true h0
 exact Qc (Q16g n0 p1 bC ah aH) [hB 2 h0, hQ (Fld.Q7 (Q2p n0 bC ah aH) 6 rfl), hP 9 (w_ok (aH + 20) (by have f0 := (Q1t n0 bC ah aH fE); omega))] [aV [(0, Fld.rows (Q2p n0 bC ah aH))] (Qux n0 bC ah aH fE (by omega))] hr (by kernel_rfl)
def Qtb (_n0 : Nat) (p1 : Int) (_bC : List Fld) (_ah : Int) (aH : Int) : List PV :=
  nuns 8 ++ [iN aH, .un, .un, iN aH, iN p1, .bool false]
def Qn1 (_n0 : Nat) (_p1 : Int) (_bC : List Fld) (_ah : Int) (_aH : Int) : List (Nat × List PV) :=
  []
theorem Q1ed (n0 : Nat) (p1 : Int) (bC : List Fld) (ah : Int) (aH : Int) (_aT : 0 ≤ ah) (_fP : ah ≤ n0) (_gU : ah + 20 = aH) (_gV : p1 = n0) (_fK : (n0 : Int) ≤ 20) (_fE : List.length bC = n0) (h0 : (decide (aH ≤ p1)) = false) : Qj6 n0 p1 (Qh7 n0 p1 bC ah aH) (bC, ah) := by
 exact ⟨(envF (Qtb n0 p1 bC ah aH)), (zoF (Qn1 n0 p1 bC ah aH)), Qd (Q16g n0 p1 bC ah aH) (x := ((.exit 0), Qrg n0 p1 bC ah (envF (Qtb n0 p1 bC ah aH)) (zoF (Qn1 n0 p1 bC ah aH)))) [hB 2 h0] [] (by kernel_rfl)⟩
theorem Q12f (n0 : Nat) (p1 : Int) : ∀ (k0 : Nat) (bC : List Fld) (ah : Int) (aH : Int), 0 ≤ ah → ah ≤ n0 → ah + 20 = aH → p1 = n0 → (n0 : Int) ≤ 20 → List.length bC = n0 → Int.toNat (p1 + 20 - aH) < k0 → Qj6 n0 p1 (Qh7 n0 p1 bC ah aH) (Q41 n0 p1 k0 bC ah aH)
 | 0, bC, ah, aH, _, _, _, _, _, _, hm => absurd hm (Nat.not_lt_zero _)
 | k0 + 1, bC, ah, aH, aT, fP, gU, gV, fK, fE, hm => by
  rw [Q41]
  cases h0 : (decide (aH ≤ p1)) with
  | true =>
   have e0 := of_decide_eq_true h0
   exact Qwd n0 p1 (fun r hr => Q1bo n0 p1 bC ah aH aT fP gU gV fK fE h0 hr) _ (Q12f n0 p1 k0 (Q2p n0 bC ah aH) aH (aH + 20) (by have f0 := (Q1t n0 bC ah aH fE); omega) (by have f0 := (Q1t n0 bC ah aH fE); omega) (by have f0 := (Q1t n0 bC ah aH fE); omega) (by have f0 := (Q1t n0 bC ah aH fE); omega) (by have f0 := (Q1t n0 bC ah aH fE); omega) (Q1t n0 bC ah aH fE) (by have f0 := (Q1t n0 bC ah aH fE); omega))
  | false =>
   exact Q1ed n0 p1 bC ah aH aT fP gU gV fK fE h0
theorem Qco (n0 : Nat) (p1 : Int) : ∀ (k0 : Nat) (bC : List Fld) (ah : Int) (aH : Int), List.length bC = n0 → List.length (Q41 n0 p1 k0 bC ah aH).1 = n0
 | 0, bC, ah, aH, fE => by rw [Q41]; exact fE
 | k0 + 1, bC, ah, aH, fE => by
  rw [Q41]
  cases h0 : (decide (aH ≤ p1)) with
  | true =>
   exact Qco n0 p1 k0 (Q2p n0 bC ah aH) aH (aH + 20) (Q1t n0 bC ah aH fE)
  | false =>
   exact fE
theorem Q132 (n0 : Nat) (p1 : Int) : ∀ (k0 : Nat) (bC : List Fld) (ah : Int) (aH : Int), 0 ≤ ah → ah ≤ n0 → ah + 20 = aH → p1 = n0 → (n0 : Int) ≤ 20 → List.length bC = n0 → Int.toNat (p1 + 20 - aH) < k0 → 0 ≤ (Q41 n0 p1 k0 bC ah aH).2 ∧ (Q41 n0 p1 k0 bC ah aH).2 ≤ n0
 | 0, bC, ah, aH, _, _, _, _, _, _, hm => absurd hm (Nat.not_lt_zero _)
 | k0 + 1, bC, ah, aH, aT, fP, gU, gV, fK, fE, hm => by
  rw [Q41]
  cases h0 : (decide (aH ≤ p1)) with
  | true =>
   have e0 := of_decide_eq_true h0
   exact Q132 n0 p1 k0 (Q2p n0 bC ah aH) aH (aH + 20) (by have f0 := (Q1t n0 bC ah aH fE); omega) (by have f0 := (Q1t n0 bC ah aH fE); omega) (by have f0 := (Q1t n0 bC ah aH fE); omega) (by have f0 := (Q1t n0 bC ah aH fE); omega) (by have f0 := (Q1t n0 bC ah aH fE); omega) (Q1t n0 bC ah aH fE) (by have f0 := (Q1t n0 bC ah aH fE); omega)
  | false =>
   have e0 := of_decide_eq_false h0
   exact (show 0 ≤ ah ∧ ah ≤ n0 from ⟨(by omega), (by omega)⟩)
def Q6h (_n0 : Nat) (_p1 : Int) : Nat → (List Fld) → List Fld
 | 0, bg => bg
 | _k1 + 1, bg =>
  bg
def Q1fv (n0 : Nat) (p1 : Int) (_bg : List Fld) : List PV :=
  [.ms 0 6 0 n0, iN p1, .fn 187 [] [], .un, .un, .un, iN 20] ++ nuns 56
def Qzj (_n0 : Nat) (_p1 : Int) (bg : List Fld) : List Ob :=
  [⟨6, 0, false, (Fld.rows bg).flatten⟩]
def Q15h (n0 : Nat) (p1 : Int) (bg : List Fld) : En := .loop 1 Ir.Ql7 Ir.Q1p5 (Q1fv n0 p1 bg) (Qzj n0 p1 bg)
def Qrh (_n0 : Nat) (_p1 : Int) (q0 : List Fld) (z : Nat → PV) (_zo : Nat → List PV) : St :=
  ⟨zr z 0 63, [(0, ⟨6, 0, false, (Fld.rows q0).flatten⟩)], 193⟩
theorem Q1lo (n0 : Nat) (p1 : Int) (bg : List Fld) : VOK (Go.Pv.look (number 0 (Qzj n0 p1 bg))) [(0, Fld.rows bg)] := (VOK.cons (show Seen _ _ from Q3o (ob := ⟨6, 0, false, (Fld.rows bg).flatten⟩) (Fld.Q7 bg 6 rfl)) VOK.nil)
def Q15r (n0 : Nat) (p1 : Int) (e : En) (q : List Fld) : Prop := ∃ z zo, Q0 G e (.st (.exit 2) (Qrh n0 p1 q z zo))
def Qtc (n0 : Nat) (p1 : Int) (_bg : List Fld) : List PV :=
  [.ms 0 6 0 n0, iN p1, .fn 187 [] [], .un, .un, .un, iN 20] ++ nuns 21 ++ [iN 20, iN p1, .bool false]
def Qn2 (_n0 : Nat) (_p1 : Int) (_bg : List Fld) : List (Nat × List PV) :=
  []
theorem Q1ee (n0 : Nat) (p1 : Int) (bg : List Fld) (gB : p1 = n0) (gD : (n0 : Int) ≤ 20) (fQ : List.length bg = n0) : Q15r n0 p1 (Q15h n0 p1 bg) bg := by
 exact ⟨(envF (Qtc n0 p1 bg)), (zoF (Qn2 n0 p1 bg)), Qd (Q1lo n0 p1 bg) (x := ((.exit 2), Qrh n0 p1 bg (envF (Qtc n0 p1 bg)) (zoF (Qn2 n0 p1 bg)))) [hP 2 (dec (decide (20 < p1)) false (decide_eq_false (by omega)))] [] (by kernel_rfl)⟩
theorem Q1ie (n0 : Nat) (p1 : Int) : ∀ (k1 : Nat) (bg : List Fld), p1 = n0 → (n0 : Int) ≤ 20 → List.length bg = n0 → 0 < k1 → Q15r n0 p1 (Q15h n0 p1 bg) (Q6h n0 p1 k1 bg)
 | 0, bg, _, _, _, hm => absurd hm (Nat.not_lt_zero _)
 | k1 + 1, bg, gB, gD, fQ, hm => by
  rw [Q6h]
  exact Q1ee n0 p1 bg gB gD fQ
theorem Qo4 (n0 : Nat) (p1 : Int) : ∀ (k1 : Nat) (bg : List Fld), List.length bg = n0 → List.length (Q6h n0 p1 k1 bg) = n0
 | 0, bg, fQ => by rw [Q6h]; exact fQ
 | k1 + 1, bg, fQ => by
  rw [Q6h]
  exact fQ
def Q62 (n0 : Nat) (p0 : List Fld) (p1 : Int) : List Fld :=
 (Q6h n0 p1 (0 + 1) (Q2p n0 (Q41 n0 p1 ((Int.toNat (p1 + 20 - 20)) + 1) p0 0 20).1 (Q41 n0 p1 ((Int.toNat (p1 + 20 - 20)) + 1) p0 0 20).2 p1))
def Q19u (n0 : Nat) (p0 : List Fld) (p1 : Int) : En := .call 220 [.ms 0 6 0 n0, iN p1, .fn 187 [] []] [⟨6, 0, false, (Fld.rows p0).flatten⟩]
def Qu4 (n0 : Nat) (p0 : List Fld) (p1 : Int) : Rs := .ret (.tup []) [⟨6, 0, false, (Fld.rows (Q62 n0 p0 p1)).flatten⟩]
theorem Qxn (n0 : Nat) (p0 : List Fld) (p1 : Int) (hn : List.length p0 = n0) : List.length (Q62 n0 p0 p1) = n0 := by
 unfold Q62
 have hz0_0 : List.length (Q41 n0 p1 ((Int.toNat (p1 + 20 - 20)) + 1) p0 0 20).1 = n0 := Qco n0 p1 ((Int.toNat (p1 + 20 - 20)) + 1) p0 0 20 hn
 obtain ⟨R1, eR1⟩ : ∃ R, (Q41 n0 p1 ((Int.toNat (p1 + 20 - 20)) + 1) p0 0 20) = R := ⟨_, rfl⟩
 rw [eR1] at hz0_0 ⊢
 have hz1_0 : List.length (Q6h n0 p1 (0 + 1) (Q2p n0 R1.1 R1.2 p1)) = n0 := Qo4 n0 p1 (0 + 1) (Q2p n0 R1.1 R1.2 p1) (Q1t n0 R1.1 R1.2 p1 hz0_0)
 obtain ⟨R2, eR2⟩ : ∃ R, (Q6h n0 p1 (0 + 1) (Q2p n0 R1.1 R1.2 p1)) = R := ⟨_, rfl⟩
 rw [eR2] at hz1_0 ⊢
 exact hz1_0
theorem Q1cx (n0 : Nat) (p0 : List Fld) (p1 : Int) (hn : List.length p0 = n0) (hq0 : 0 ≤ p1 ∧ p1 = n0 ∧ (n0 : Int) ≤ 20) : Q0 G (Q19u n0 p0 p1) (Qu4 n0 p0 p1) := by
 unfold Qu4 Q62
 have hl0 := Q12f n0 p1 ((Int.toNat (p1 + 20 - 20)) + 1) p0 0 20 (by omega) (by omega) (by omega) (by omega) (by omega) hn (by omega)
 have hz0_0 : List.length (Q41 n0 p1 ((Int.toNat (p1 + 20 - 20)) + 1) p0 0 20).1 = n0 := Qco n0 p1 ((Int.toNat (p1 + 20 - 20)) + 1) p0 0 20 hn
 have hy0 : 0 ≤ (Q41 n0 p1 ((Int.toNat (p1 + 20 - 20)) + 1) p0 0 20).2 ∧ (Q41 n0 p1 ((Int.toNat (p1 + 20 - 20)) + 1) p0 0 20).2 ≤ n0 := Q132 n0 p1 ((Int.toNat (p1 + 20 - 20)) + 1) p0 0 20 (by omega) (by omega) (by omega) (by omega) (by omega) hn (by omega)
 obtain ⟨R1, eR1⟩ : ∃ R, (Q41 n0 p1 ((Int.toNat (p1 + 20 - 20)) + 1) p0 0 20) = R := ⟨_, rfl⟩
 rw [eR1] at hz0_0 hy0 hl0 ⊢
 obtain ⟨z0, gq, hl0⟩ := hl0
 have hl1 := Q1ie n0 p1 (0 + 1) (Q2p n0 R1.1 R1.2 p1) (by have f0 := (Q1t n0 R1.1 R1.2 p1 hz0_0); have g0 := hy0; omega) (by have f0 := (Q1t n0 R1.1 R1.2 p1 hz0_0); have g0 := hy0; omega) (Q1t n0 R1.1 R1.2 p1 hz0_0) (by omega)
 have hz1_0 : List.length (Q6h n0 p1 (0 + 1) (Q2p n0 R1.1 R1.2 p1)) = n0 := Qo4 n0 p1 (0 + 1) (Q2p n0 R1.1 R1.2 p1) (Q1t n0 R1.1 R1.2 p1 hz0_0)
 obtain ⟨R2, eR2⟩ : ∃ R, (Q6h n0 p1 (0 + 1) (Q2p n0 R1.1 R1.2 p1)) = R := ⟨_, rfl⟩
 rw [eR2] at hz1_0 hl1 ⊢
 obtain ⟨z1, iR, hl1⟩ := hl1
 exact Q5 (fn := Ir.K4u) (by kernel_rfl) (vk1 (Fld.Q7 p0 6 rfl)) [hS 0 false (Fld.Q7 R1.1 6 rfl), hQ (Fld.Q7 (Q2p n0 R1.1 R1.2 p1) 6 rfl), hS 0 false (Fld.Q7 R2 6 rfl)] [aV [(0, Fld.rows R1.1)] hl0, aV [(0, Fld.rows (Q2p n0 R1.1 R1.2 p1))] (Qux n0 R1.1 R1.2 p1 hz0_0 (by have g0 := hy0; omega)), aV [(0, Fld.rows R2)] hl1] (by kernel_rfl)
def Qn (n0 : Nat) (p0 : List Fld) : List Fld :=
 (Q62 n0 p0 (n0 : Int))
def Q19s (n0 : Nat) (p0 : List Fld) : En := .call 186 [.ms 0 6 0 n0, .fn 187 [] []] [⟨6, 0, false, (Fld.rows p0).flatten⟩]
def Qu2 (n0 : Nat) (p0 : List Fld) : Rs := .ret (.tup []) [⟨6, 0, false, (Fld.rows (Qn n0 p0)).flatten⟩]
theorem Q30 (n0 : Nat) (p0 : List Fld) (hn : List.length p0 = n0) : List.length (Qn n0 p0) = n0 := by
 unfold Qn
 exact (Qxn n0 p0 (n0 : Int) hn)
theorem Q1cw (n0 : Nat) (p0 : List Fld) (hn : List.length p0 = n0) (hq0 : (n0 : Int) ≤ 20) : Q0 G (Q19s n0 p0) (Qu2 n0 p0) := by
 unfold Qu2 Qn
 exact Q5 (fn := Ir.K4s) (by kernel_rfl) (vk1 (Fld.Q7 p0 6 rfl)) [hQ (Fld.Q7 (Q62 n0 p0 (n0 : Int)) 6 rfl)] [aV [(0, Fld.rows (Q62 n0 p0 (n0 : Int)))] (Q1cx n0 p0 (n0 : Int) hn (by omega))] (by kernel_rfl)
def Q49 (p0 : List Fld) : List Fld → Nat → (List Fld) → List Fld
 | [], _i0, ah =>
  ah
 | x0 :: r0, i0, ah =>
  bif (((i0 + 1 : Nat) : Int) == ((List.length p0) : Int)) then
   Q49 p0 r0 (i0 + 1) (ah ++ [x0])
  else
   bif (sEq (List.getD (Qn (List.length p0) p0) (Int.toNat ((i0 + 1 : Nat) : Int)) zF).name x0.name) then
    Q49 p0 r0 (i0 + 1) ah
   else
    Q49 p0 r0 (i0 + 1) (ah ++ [x0])
def Q1fx (p0 : List Fld) (i0 : Nat) (_ah : List Fld) : List PV :=
  [.un, .un, .bx 0 0, .ms 1 6 0 (List.length p0), .bx 2 0] ++ nuns 7 ++ [.ms 1 6 0 (List.length p0), iN ((List.length p0) : Int), iN (i0 : Int)] ++ nuns 29
def Qzk (p0 : List Fld) (_i0 : Nat) (ah : List Fld) : List Ob :=
  [⟨5, 0, true, [iN 0, iN 0, .str eB, .ms 3 5 0 0, .ms 4 6 0 0]⟩, ⟨6, 0, false, (Fld.rows (Qn (List.length p0) p0)).flatten⟩, ⟨5, 0, true, [iN 5, iN 0, .str eB, .ms 5 5 0 0, .ms 6 6 0 (List.length ah)]⟩, ⟨5, 0, true, []⟩, ⟨6, 0, true, []⟩, ⟨5, 0, true, []⟩, ⟨6, 0, true, (Fld.rows ah).flatten⟩]
def Q8f (p0 : List Fld) (i0 : Nat) (ah : List Fld) : En := .loop 0 Ir.Ql9 Ir.Q1p7 (Q1fx p0 i0 ah) (Qzk p0 i0 ah)
def Qrk (p0 : List Fld) (q0 : List Fld) (z : Nat → PV) (_zo : Nat → List PV) : St :=
  ⟨[z 0, z 1, .bx 0 0, z 3, .bx 2 0] ++ zr z 5 39, [(0, ⟨5, 0, true, [iN 0, iN 0, .str eB, .ms 3 5 0 0, .ms 4 6 0 0]⟩), (1, ⟨6, 0, false, (Fld.rows (Qn (List.length p0) p0)).flatten⟩), (2, ⟨5, 0, true, [iN 5, iN 0, .str eB, .ms 5 5 0 0, .ms 6 6 0 (List.length q0)]⟩), (3, ⟨5, 0, true, []⟩), (4, ⟨6, 0, true, []⟩), (5, ⟨5, 0, true, []⟩), (6, ⟨6, 0, true, (Fld.rows q0).flatten⟩)], 71⟩
theorem Qjj (p0 : List Fld) (i0 : Nat) (ah : List Fld) : VOK (Go.Pv.look (number 0 (Qzk p0 i0 ah))) [(1, Fld.rows (Qn (List.length p0) p0)), (6, Fld.rows ah)] := (VOK.cons (show Seen _ _ from Q3o (ob := ⟨6, 0, false, (Fld.rows (Qn (List.length p0) p0)).flatten⟩) (Fld.Q7 (Qn (List.length p0) p0) 6 rfl)) (VOK.cons (show Seen _ _ from Q3o (ob := ⟨6, 0, true, (Fld.rows ah).flatten⟩) (Fld.Q7 ah 6 rfl)) VOK.nil))
def Qj7 (p0 : List Fld) (e : En) (q : List Fld) : Prop := ∃ z zo, Q0 G e (.st (.exit 0) (Qrk p0 q z zo))
theorem Q9t (p0 : List Fld) {e e' : En} (h : ∀ r, Q0 G e r → Q0 G e' r) : ∀ q, Qj7 p0 e q → Qj7 p0 e' q
  | _, ⟨z, zo, hz⟩ => ⟨z, zo, h _ hz⟩
def Qbj (p0 : List Fld) : Prop := (List.length (Qn (List.length p0) p0) ≤ 137438953472) ∧ True
def Qtf (p0 : List Fld) (i0 : Nat) (_ah : List Fld) : List PV :=
  [.un, .un, .un, .ms 1 6 0 (List.length p0)] ++ nuns 8 ++ [.ms 1 6 0 (List.length p0), iN ((List.length p0) : Int), iN (i0 : Int), .bool false]
def Qn5 (_p0 : List Fld) (_i0 : Nat) (_ah : List Fld) : List (Nat × List PV) :=
  []
theorem Q1eh (p0 : List Fld) (_H : Qbj p0) (i0 : Nat) (ah : List Fld) (_aT : List.length ah ≤ i0) (bG : (decide ((i0 : Int) < ((List.length p0) : Int))) = false) : Qj7 p0 (Q8f p0 i0 ah) ah := by
 exact ⟨(envF (Qtf p0 i0 ah)), (zoF (Qn5 p0 i0 ah)), Qd (Qjj p0 i0 ah) (x := ((.exit 0), Qrk p0 ah (envF (Qtf p0 i0 ah)) (zoF (Qn5 p0 i0 ah)))) [hB 0 bG] [] (by kernel_rfl)⟩
theorem Q1bq (p0 : List Fld) (H : Qbj p0) (x0 : Fld) (i0 : Nat) (ah : List Fld) (bU : (Qn (List.length p0) p0)[i0]? = some x0) (dG : i0 < List.length (Qn (List.length p0) p0)) (aT : List.length ah ≤ i0) (bG : (decide ((i0 : Int) < ((List.length p0) : Int))) = true) (h0 : (((i0 + 1 : Nat) : Int) == ((List.length p0) : Int)) = true) {r : Rs} (hr : Q0 G (Q8f p0 (i0 + 1) (ah ++ [x0])) r) : Q0 G (Q8f p0 i0 ah) r := by
 have hB0 := H.1; have e0 := eq_of_beq h0
 exact Qc (Qjj p0 i0 ah) [hB 0 bG, hP 1 (Q5k 1 6 (List.length p0) (i0 : Int) i0 (by omega) (by have f1 := (Q30 (List.length p0) p0 rfl); omega) (by have f1 := (Q30 (List.length p0) p0 rfl); omega)), hP 0 (Qc4 1 6 0 false ((Fld.rows (Qn (List.length p0) p0)).flatten) (Fld.rows (Qn (List.length p0) p0)) 6 true i0 0 (i0 * 6) (Fld.cells x0) (.agg [.str x0.name, iN x0.v.kind, iN x0.v.n, .str x0.v.s, .sl (Val.rows x0.v.list), .sl (Fld.rows x0.v.fields)]) rfl rfl (Fld.Qg bU) (Fld.Qh (Qn (List.length p0) p0)) (by decide) rfl), hP 4 (Q26 i0 (by omega)), hB 2 h0, hA 15 6 1671 1735 6 96 0 0 true Fld.Q8 Fld.Q1g ah x0 (Fld.Qh ah) rfl rfl (by omega), hS 0 true (Fld.Q7 (ah ++ [x0]) 6 rfl), hP 2 (Q26 i0 (by omega))] [] hr (by kernel_rfl)
theorem Q1br (p0 : List Fld) (H : Qbj p0) (x0 : Fld) (i0 : Nat) (ah : List Fld) (bU : (Qn (List.length p0) p0)[i0]? = some x0) (dG : i0 < List.length (Qn (List.length p0) p0)) (_aT : List.length ah ≤ i0) (bG : (decide ((i0 : Int) < ((List.length p0) : Int))) = true) (h0 : (((i0 + 1 : Nat) : Int) == ((List.length p0) : Int)) = false) (h1 : (sEq (List.getD (Qn (List.length p0) p0) (Int.toNat ((i0 + 1 : Nat) : Int)) zF).name x0.name) = true) {r : Rs} (hr : Q0 G (Q8f p0 (i0 + 1) ah) r) : Q0 G (Q8f p0 i0 ah) r := by
 have hB0 := H.1; have e0 := beq_eq_false_iff_ne.1 h0
 exact Qc (Qjj p0 i0 ah) [hB 0 bG, hP 1 (Q5k 1 6 (List.length p0) (i0 : Int) i0 (by omega) (by have f1 := (Q30 (List.length p0) p0 rfl); omega) (by have f1 := (Q30 (List.length p0) p0 rfl); omega)), hP 0 (Qc4 1 6 0 false ((Fld.rows (Qn (List.length p0) p0)).flatten) (Fld.rows (Qn (List.length p0) p0)) 6 true i0 0 (i0 * 6) (Fld.cells x0) (.agg [.str x0.name, iN x0.v.kind, iN x0.v.n, .str x0.v.s, .sl (Val.rows x0.v.list), .sl (Fld.rows x0.v.fields)]) rfl rfl (Fld.Qg bU) (Fld.Qh (Qn (List.length p0) p0)) (by decide) rfl), hP 4 (Q26 i0 (by omega)), hB 2 h0, hP 3 (Q26 i0 (by omega)), hP 0 (Q5k 1 6 (List.length p0) ((i0 + 1 : Nat) : Int) (Int.toNat ((i0 + 1 : Nat) : Int)) rfl (by have f1 := (Q30 (List.length p0) p0 rfl); omega) (by have f1 := (Q30 (List.length p0) p0 rfl); omega)), hP 1 (Qc4 1 6 0 false ((Fld.rows (Qn (List.length p0) p0)).flatten) (Fld.rows (Qn (List.length p0) p0)) 1 false (Int.toNat ((i0 + 1 : Nat) : Int)) 0 ((Int.toNat ((i0 + 1 : Nat) : Int)) * 6) (Fld.cells (List.getD (Qn (List.length p0) p0) (Int.toNat ((i0 + 1 : Nat) : Int)) zF)) (.str (List.getD (Qn (List.length p0) p0) (Int.toNat ((i0 + 1 : Nat) : Int)) zF).name) rfl rfl (Fld.Qg (Q5x (Qn (List.length p0) p0) (Int.toNat ((i0 + 1 : Nat) : Int)) zF (by have f1 := (Q30 (List.length p0) p0 rfl); omega))) (Fld.Qh (Qn (List.length p0) p0)) (by decide) rfl), hP 2 (dec (!(sEq (List.getD (Qn (List.length p0) p0) (Int.toNat ((i0 + 1 : Nat) : Int)) zF).name x0.name)) false (by rw [h1]; rfl)), hP 1 (Q26 i0 (by omega))] [] hr (by kernel_rfl)
theorem Q1bs (p0 : List Fld) (H : Qbj p0) (x0 : Fld) (i0 : Nat) (ah : List Fld) (bU : (Qn (List.length p0) p0)[i0]? = some x0) (dG : i0 < List.length (Qn (List.length p0) p0)) (aT : List.length ah ≤ i0) (bG : (decide ((i0 : Int) < ((List.length p0) : Int))) = true) (h0 : (((i0 + 1 : Nat) : Int) == ((List.length p0) : Int)) = false) (h1 : (sEq (List.getD (Qn (List.length p0) p0) (Int.toNat ((i0 + 1 : Nat) : Int)) zF).name x0.name) = false) {r : Rs} (hr : Q0 G (Q8f p0 (i0 + 1) (ah ++ [x0])) r) : Q0 G (Q8f p0 i0 ah) r := by
 have hB0 := H.1; have e0 := beq_eq_false_iff_ne.1 h0
 exact Qc (Qjj p0 i0 ah) [hB 0 bG, hP 1 (Q5k 1 6 (List.length p0) (i0 : Int) i0 (by omega) (by have f1 := (Q30 (List.length p0) p0 rfl); omega) (by have f1 := (Q30 (List.length p0) p0 rfl); omega)), hP 0 (Qc4 1 6 0 false ((Fld.rows (Qn (List.length p0) p0)).flatten) (Fld.rows (Qn (List.length p0) p0)) 6 true i0 0 (i0 * 6) (Fld.cells x0) (.agg [.str x0.name, iN x0.v.kind, iN x0.v.n, .str x0.v.s, .sl (Val.rows x0.v.list), .sl (Fld.rows x0.v.fields)]) rfl rfl (Fld.Qg bU) (Fld.Qh (Qn (List.length p0) p0)) (by decide) rfl), hP 4 (Q26 i0 (by omega)), hB 2 h0, hP 3 (Q26 i0 (by omega)), hP 0 (Q5k 1 6 (List.length p0) ((i0 + 1 : Nat) : Int) (Int.toNat ((i0 + 1 : Nat) : Int)) rfl (by have f1 := (Q30 (List.length p0) p0 rfl); omega) (by have f1 := (Q30 (List.length p0) p0 rfl); omega)), hP 1 (Qc4 1 6 0 false ((Fld.rows (Qn (List.length p0) p0)).flatten) (Fld.rows (Qn (List.length p0) p0)) 1 false (Int.toNat ((i0 + 1 : Nat) : Int)) 0 ((Int.toNat ((i0 + 1 : Nat) : Int)) * 6) (Fld.cells (List.getD (Qn (List.length p0) p0) (Int.toNat ((i0 + 1 : Nat) : Int)) zF)) (.str (List.getD (Qn (List.length p0) p0) (Int.toNat ((i0 + 1 : Nat) : Int)) zF).name) rfl rfl (Fld.Qg (Q5x (Qn (List.length p0) p0) (Int.toNat ((i0 + 1 : Nat) : Int)) zF (by have f1 := (Q30 (List.length p0) p0 rfl); omega))) (Fld.Qh (Qn (List.length p0) p0)) (by decide) rfl), hP 2 (dec (!(sEq (List.getD (Qn (List.length p0) p0) (Int.toNat ((i0 + 1 : Nat) : Int)) zF).name x0.name)) true (by rw [h1]; rfl)), hA 5 6 1671 1735 6 96 0 0 true Fld.Q8 Fld.Q1g ah x0 (Fld.Qh ah) rfl rfl (by omega), hS 0 true (Fld.Q7 (ah ++ [x0]) 6 rfl), hP 2 (Q26 i0 (by omega))] [] hr (by kernel_rfl)
theorem Qe8 (p0 : List Fld) (H : Qbj p0) : ∀ (r0 : List Fld) (i0 : Nat) (ah : List Fld), List.drop i0 (Qn (List.length p0) p0) = r0 → List.length ah ≤ i0 → Qj7 p0 (Q8f p0 i0 ah) (Q49 p0 r0 i0 ah)
 | [], i0, ah, hd, aT => by
  have bG : (decide ((i0 : Int) < ((List.length p0) : Int))) = false := by have hL := (Q30 (List.length p0) p0 rfl); have := Q1c hd; simp; omega
  rw [Q49]
  exact Q1eh p0 H i0 ah aT bG
 | x0 :: r0, i0, ah, hd, aT => by
  obtain ⟨bU, dG, hd'⟩ := Q19 hd
  have bG : (decide ((i0 : Int) < ((List.length p0) : Int))) = true := by have hL := (Q30 (List.length p0) p0 rfl); simp; omega
  rw [Q49]
  cases h0 : (((i0 + 1 : Nat) : Int) == ((List.length p0) : Int)) with
  | true =>
   have e0 := eq_of_beq h0
   exact Q9t p0 (fun r hr => Q1bq p0 H x0 i0 ah bU dG aT bG h0 hr) _ (Qe8 p0 H r0 _ _ hd' (by first | omega | (simp; omega)))
  | false =>
   have e0 := beq_eq_false_iff_ne.1 h0
   cases h1 : (sEq (List.getD (Qn (List.length p0) p0) (Int.toNat ((i0 + 1 : Nat) : Int)) zF).name x0.name) with
   | true =>
    exact Q9t p0 (fun r hr => Q1br p0 H x0 i0 ah bU dG aT bG h0 h1 hr) _ (Qe8 p0 H r0 _ _ hd' (by first | omega | (simp; omega)))
   | false =>
    exact Q9t p0 (fun r hr => Q1bs p0 H x0 i0 ah bU dG aT bG h0 h1 hr) _ (Qe8 p0 H r0 _ _ hd' (by first | omega | (simp; omega)))
def Q4n (p0 : List Fld) : Val :=
 (Val.mk 5 0 eB [] (Q49 p0 (Qn (List.length p0) p0) 0 []))
def Q8c (p0 : List Fld) : En := .call 78 [.sl (Fld.rows p0)] []
def Q1ya (p0 : List Fld) : Rs := .ret (.agg (Val.cells (Q4n p0))) []
def Q83 (p0 : List Fld) : Prop := (List.length p0 * 96 ≤ 140737488355328) ∧ (((List.length p0) : Int) ≤ 20) ∧ (Qbj p0) ∧ (Qp2 (Val.mk 5 0 eB [] (Q49 p0 (Qn (List.length p0) p0) 0 []))) ∧ True
theorem Q93 (p0 : List Fld) (H : Q83 p0) : Q0 G (Q8c p0) (Q1ya p0) := by
 unfold Q1ya Q4n
 have hl0 := Qe8 p0 (H.2.2.1) (Qn (List.length p0) p0) 0 [] (by simp) (by simp)
 obtain ⟨z0, gq, hl0⟩ := hl0
 exact Q5 (fn := Ir.K50) (by kernel_rfl) VOK.nil [hQ (Fld.Q7 p0 6 rfl), hQ (Fld.Q7 (Qn (List.length p0) p0) 6 rfl), hS 0 false (Fld.Q7 (Qn (List.length p0) p0) 6 rfl), hS 0 true (Fld.Q7 (Q49 p0 (Qn (List.length p0) p0) 0 []) 6 rfl), hQ (Fld.Q8 (Q49 p0 (Qn (List.length p0) p0) 0 [])).symm] [aV [(0, Fld.rows p0)] (Qaf (G := G) (f := 185) (sz := 6) (bytes := 96) rfl (Fld.Q8 p0) (Fld.Q7 p0 6 rfl) H.1), aV [(0, Fld.rows (Qn (List.length p0) p0))] (Q1cw (List.length p0) p0 rfl (H.2.1)), aV [(1, Fld.rows (Qn (List.length p0) p0)), (6, Fld.rows (Q49 p0 (Qn (List.length p0) p0) 0 []))] hl0, aN (Q1s7 (Val.mk 5 0 eB [] (Q49 p0 (Qn (List.length p0) p0) 0 [])) H.2.2.2.1)] (by kernel_rfl)
end Go.Proofs.YtimjjohlpnkacaaGreat
end

section
/- Maps of at most 20 fields, fields of a name and equality in plain words. -/
namespace Go.Proofs.YtimjjohlpnkacaaGreat
open Go.Pv Go.Pv.Srt
theorem vind {P : Val → Prop} (h : ∀ v : Val, (∀ x ∈ v.list, P x) → (∀ f ∈ v.fields, P f.v) → P v) : ∀ v, P v := by
  have key : ∀ (k : Nat) (v : Val), SizeOf.sizeOf v < k → P v := by
    intro k
    induction k with
    | zero => intro v hv; exact absurd hv (Nat.not_lt_zero _)
    | succ k ih => intro v hv; exact h v (fun x hx => ih x (by have := szM hx; omega)) (fun f hf => ih f.v (by have := szN hf; omega))
  exact fun v => key _ v (Nat.lt_succ_self _)
theorem vprt (v : Val) (n : BA) : (Qpb v n).1 = prt v n := by
  unfold Qpb prt
  cases v.kind == 5 with
  | false => rfl
  | true =>
    simp only [cond_true]
    have : ∀ (l : List Fld) (i : Nat), (match Q8i v n l i with | .k0 => (Val.mk 0 0 ⟨#[]⟩ [] [], false) | .k1 y => (y, true)).1 = Q1ao n l := by
      intro l
      induction l with
      | nil => intro i; rfl
      | cons x l ih =>
        intro i
        rw [Q8i, Q1ao]
        cases sEq x.name n with
        | true => rfl
        | false => exact ih (i + 1)
    exact this _ _
abbrev Qfh : Fld := zF
theorem Q1pu (n0 : Nat) (a b i : Int) : ∀ (k : Nat) (v : List Fld) (j : Int), Q4s n0 a b i k v j = ins1 Qfh cNm a k v j
  | 0, _, _ => rfl
  | k + 1, v, j => by
    rw [Q4s, ins1, Q1pu n0 a b i k]
    rfl
theorem Q1pt (n0 : Nat) (a b : Int) : ∀ (k : Nat) (i : Int) (v : List Fld), Q59 n0 a b k i v = ins0 Qfh cNm a b k i v
  | 0, _, _ => rfl
  | k + 1, i, v => by
    rw [Q59, ins0, Q1pt n0 a b k, Q1pu]
theorem Q20i (n0 : Nat) (d : List Fld) (a b : Int) : Q2p n0 d a b = ins Qfh cNm d a b := Q1pt n0 a b _ _ _
theorem Qyk {l : List Fld} (h : l.length ≤ 20) : Qn l.length l = Qf4 cNm l := by
  unfold Qn Q62
  have i1 : ∀ v, Q6h l.length (l.length : Int) (0 + 1) v = v := fun v => rfl
  rw [i1, Q20i, Q41]
  by_cases c : (20 : Int) ≤ (l.length : Int)
  · rw [show decide ((20 : Int) ≤ (l.length : Int)) = true by simpa using c, cond_true, Q20i, show Int.toNat ((l.length : Int) + 20 - 20) = 19 + 1 by omega, Q41, show decide ((20 : Int) + 20 ≤ (l.length : Int)) = false by simp; omega, cond_false]
    have e1 := Qxm (z := Qfh) (c := cNm) (d := l) (A := []) (M := l) (C := []) (a := 0) (b := 20) (by simp) rfl (by omega)
    rw [List.nil_append, List.append_nil] at e1
    rw [e1, Qxm (z := Qfh) (c := cNm) (d := Qf4 cNm l) (A := Qf4 cNm l) (M := []) (C := []) (by simp) (by rw [Qo1 _ (Qc2 Fld.name)]; omega) (by simp; omega)]
    simp [Qf4]
  · rw [show decide ((20 : Int) ≤ (l.length : Int)) = false by simpa using c, cond_false]
    have e1 := Qxm (z := Qfh) (c := cNm) (d := l) (A := []) (M := l) (C := []) (a := 0) (b := (l.length : Int)) (by simp) rfl (by omega)
    rw [List.nil_append, List.append_nil] at e1
    exact e1
theorem Qf5 (p : List Fld) : (Qf4 cNm p).length = p.length := Qo1 _ (Qc2 Fld.name) p
theorem Q1ij {p : List Fld} (hp : p.length ≤ 20) : ∀ (r : List Fld) (i : Nat) (a : List Fld), (Qf4 cNm p).drop i = r → Q49 p r i a = a ++ lasts r
  | [], i, a, _ => by rw [Q49, lasts]; simp
  | [x], i, a, hd => by
    have hl := Qf5 p
    have h := congrArg List.length hd
    rw [List.length_drop, List.length_singleton] at h
    rw [Q49, show (((i + 1 : Nat) : Int) == (List.length p : Int)) = true by simp; omega, cond_true, Q49]
    rfl
  | x :: y :: r, i, a, hd => by
    have hl := Qf5 p
    have h := congrArg List.length hd
    rw [List.length_drop, List.length_cons, List.length_cons] at h
    obtain ⟨_, _, hd'⟩ := Q19 hd
    obtain ⟨hy, _, _⟩ := Q19 hd'
    rw [Q49, show (((i + 1 : Nat) : Int) == (List.length p : Int)) = false by simp; omega, cond_false, Qyk hp, Int.toNat_natCast, List.getD_eq_getElem?_getD, hy, Option.getD_some, lasts]
    cases sEq y.name x.name with
    | true => rw [cond_true, cond_true, Q1ij hp (y :: r) (i + 1) a hd']
    | false => rw [cond_false, cond_false, Q1ij hp (y :: r) (i + 1) _ hd']; simp
theorem Qox {p : List Fld} (hp : p.length ≤ 20) : Q49 p (Qn p.length p) 0 [] = mapOf p := by
  rw [Q1ij hp _ 0 [] (by rw [Qyk hp]; rfl), Qyk hp]
  rfl
theorem vmap {p : List Fld} (hp : p.length ≤ 20) : Q4n p = vM (mapOf p) := by
  unfold Q4n
  rw [Qox hp]
theorem Q6r {p : List Fld} (hp : p.length ≤ 20) (hs : ssb p = true) : Q4n p = vM p := by rw [vmap hp, Q1ih hs]
theorem Q1wn {l : List Fld} (hl : l.length ≤ 20) (h : ∀ f ∈ l, Val.Sm sB f.v) : Val.Sm sB (vM (mapOf l)) :=
  .mk _ (Nat.zero_le _) (Nat.le_trans (Q1ig l) (by show l.length ≤ 1000000000; omega)) (fun _ g => by cases g) fun f hf => h f (Q1ii hf)
theorem Q8p {l : List Fld} (hl : l.length ≤ 20) (h : ∀ f ∈ l, Val.Sm sB f.v) : Q83 l := by
  refine ⟨by omega, by omega, ⟨?_, trivial⟩, ?_, trivial⟩
  · rw [Qyk hl, Qf5]
    omega
  · rw [Qox hl]
    exact Q1wn hl h
theorem Q1w5 {v : Val} (h : Val.Sm sB v) (n : BA) : Q1lb v n := ⟨⟨Nat.le_trans h.all.2.1 (Nat.le_of_ble_eq_true rfl), h.all.2.2.2, trivial⟩, trivial⟩
end Go.Proofs.YtimjjohlpnkacaaGreat
end

