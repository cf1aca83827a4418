/-
  What a law is handed: readings of its arguments as trees.
-/
import Derived.Test.YtedohmdgbilicaaPvR
import Derived.ChangeArms
import Derived.ChangeSlices
import Derived.ChangeOld
import Derived.Carry
import GoSem.ClaimJoined
namespace Go.Pv
open Go.RowKit

inductive Ty where
  | bool
  | int (k : IntKind)
  | str
  | sl (bytes : Nat) (e : Ty)
  | st (fs : List Ty)
  | nm (t : Nat)

mutual
/-- Cells that lie as a type says. -/
inductive Of (Γ : Nat → Option Ty) : Ty → List PV → Prop
  | bool (b : Bool) : Of Γ .bool [.bool b]
  | int (k : IntKind) (n : Int) (h : (Lit.int k n).wf = true) : Of Γ (.int k) [.int k n]
  | str (s : ByteArray) (h : s.size ≤ 140737488351232) : Of Γ .str [.str s]
  | sl (bytes : Nat) (e : Ty) (l : List (List PV)) (h : l.length * bytes ≤ 140737488351232) (hl : ∀ r ∈ l, Of Γ e r) : Of Γ (.sl bytes e) [.sl l]
  | st (fs : List Ty) (c : List PV) (h : OfL Γ fs c) : Of Γ (.st fs) c
  | nm (t : Nat) (ty : Ty) (c : List PV) (hg : Γ t = some ty) (h : Of Γ ty c) : Of Γ (.nm t) c
inductive OfL (Γ : Nat → Option Ty) : List Ty → List PV → Prop
  | nil : OfL Γ [] []
  | cons (f : Ty) (fs : List Ty) (a b : List PV) (h : Of Γ f a) (hr : OfL Γ fs b) : OfL Γ (f :: fs) (a ++ b)
end

mutual
def chkTy (P : Program) (Γ : Nat → Option Ty) : Ty → TypeId → Bool
  | .bool, t => isBoolTy P t
  | .int k, t => intTy P t k
  | .str, t => isStrTy P t
  | .sl bytes e, t => (match P.underlying t with | some (.slice te) => Nat.beq (P.bytesOf te) bytes && Nat.ble 1 (P.cellsOf te) && chkTy P Γ e te | _ => false)
  | .st fs, t => (match P.underlying t with | some (.struct gs) => chkTyL P Γ fs gs.toList 0 (P.cellsOf t) | _ => false)
  | .nm t', t => Nat.beq t' t && (Γ t').isSome
def chkTyL (P : Program) (Γ : Nat → Option Ty) : List Ty → List Field → Nat → Nat → Bool
  | [], [], off, n => Nat.beq off n
  | f :: fs, g :: gs, off, n => Nat.beq g.offset off && chkTy P Γ f g.type && chkTyL P Γ fs gs (off + P.cellsOf g.type) n
  | _, _, _, _ => false
end
def Ty.named : Ty → Bool
  | .nm _ => true
  | _ => false
def TabOK (P : Program) (Γ : Nat → Option Ty) : Prop := ∀ t ty, Γ t = some ty → ty.named = false ∧ chkTy P Γ ty t = true

theorem choose_list {α : Type} {Q : Nat → α → Prop} : ∀ n : Nat, (∀ i, i < n → ∃ x, Q i x) → ∃ l : List α, l.length = n ∧ ∀ i x, l[i]? = some x → Q i x
  | 0, _ => ⟨[], rfl, fun i x h => by simp at h⟩
  | n + 1, h => by
    obtain ⟨l, hl, hq⟩ := choose_list n (fun i hi => h i (by omega))
    obtain ⟨x, hx⟩ := h n (by omega)
    refine ⟨l ++ [x], by simp [hl], fun i y hy => ?_⟩
    by_cases c : i < l.length
    · rw [List.getElem?_append_left c] at hy
      exact hq i y hy
    · rw [List.getElem?_append_right (by omega)] at hy
      have hi : i - l.length = 0 := by
        have := (List.getElem?_eq_some_iff.1 hy).1
        simp at this
        omega
      rw [hi] at hy
      simp at hy
      subst hy
      rw [show i = n by omega]
      exact hx

def NoM : Nat → Nat → Prop := fun _ _ => False
def NoD : Nat → Option Nat := fun _ => none
def Light {H : Type} (P : Program) (t : TypeId) (d : DataW H) : Prop := (d.weights P t).all (· ≤ reachBytes) = true

section
variable {H : Type} {enc : TypeId × Value → H} {P : Program} {w : World} {base : Nat} {sp : Nat → Bool} {held : Bool} {Γ : Nat → Option Ty}

theorem light_each {ts : List TypeId} {ds : List (DataW H)} (h : (DataW.weightsEach P ts ds).all (· ≤ reachBytes) = true) : ∀ (i : Nat) t d, ts[i]? = some t → ds[i]? = some d → Light P t d := by
  induction ts generalizing ds with
  | nil => intro i t d ht; simp at ht
  | cons t0 ts ih =>
    cases ds with
    | nil => intro i t d _ hd; simp at hd
    | cons d0 ds =>
      simp only [DataW.weightsEach, List.all_append, Bool.and_eq_true] at h
      intro i t d ht hd
      cases i with
      | zero =>
        simp at ht hd
        subst ht hd
        exact h.1
      | succ i => exact ih h.2 i t d (by simpa using ht) (by simpa using hd)
theorem light_all {e : TypeId} {ds : List (DataW H)} (h : (DataW.weightsAll P e ds).all (· ≤ reachBytes) = true) : ∀ d ∈ ds, Light P e d := by
  induction ds with
  | nil => intro d hd; cases hd
  | cons d0 ds ih =>
    simp only [DataW.weightsAll, List.all_append, Bool.and_eq_true] at h
    intro d hd
    rcases List.mem_cons.1 hd with rfl | hd
    · exact h.1
    · exact ih h.2 d hd

theorem RepN.app {M : Nat → Nat → Prop} {D : Nat → Option Nat} {xs ys : List Value} {a b : List PV} (h : RepN w M D xs a) (h' : RepN w M D ys b) : RepN w M D (xs ++ ys) (a ++ b) := by
  refine ⟨by simp [h.1, h'.1], fun i v p hv hp => ?_⟩
  by_cases c : i < xs.length
  · rw [List.getElem?_append_left c] at hv
    rw [List.getElem?_append_left (by rw [← h.1]; exact c)] at hp
    exact h.2 i v p hv hp
  · rw [List.getElem?_append_right (by omega)] at hv
    rw [List.getElem?_append_right (by rw [← h.1]; omega), ← h.1] at hp
    exact h'.2 _ v p hv hp
theorem RepN.one {M : Nat → Nat → Prop} {D : Nat → Option Nat} {v : Value} {p : PV} (h1 : v.oneCell' = true) (h : Rep w M D v p) : RepN w M D [v] [p] := by
  refine ⟨rfl, fun i u q hu hq => ?_⟩
  cases i with
  | zero =>
    simp at hu hq
    subst hu hq
    exact ⟨h1, h⟩
  | succ i => simp at hu

theorem open_fields {n : Nat} {cs : List Value} (ih : ∀ (ty : Ty) (t : TypeId) (cs : List Value) (x : DataW H × List MemPlace), chkTy P Γ ty t = true → DataW.trod enc P w base sp held n t cs = some x → Light P t x.1 → ∃ c, RepN w NoM NoD cs c ∧ Of Γ ty c) :
    ∀ (fs : List Ty) (gs : List Field) (off : Nat) (ys : List (DataW H × List MemPlace)), chkTyL P Γ fs gs off cs.length = true → ys.length = gs.length → (∀ (j : Nat) g, gs[j]? = some g → DataW.trod enc P w base sp held n g.type ((cs.drop g.offset).take (P.cellsOf g.type)) = ys[j]?) →
      (∀ (j : Nat) g y, gs[j]? = some g → ys[j]? = some y → Light P g.type y.1) → ∃ c, RepN w NoM NoD (cs.drop off) c ∧ OfL Γ fs c
  | [], [], off, ys, hc, _, _, _ => by
    simp only [chkTyL] at hc
    have := Nat.eq_of_beq_eq_true hc
    refine ⟨[], ?_, .nil⟩
    rw [this, List.drop_length]
    exact ⟨rfl, fun i v p h => by simp at h⟩
  | [], _ :: _, off, ys, hc, _, _, _ => by cases hc
  | _ :: _, [], off, ys, hc, _, _, _ => by cases hc
  | f :: fs, g :: gs, off, [], hc, hl, _, _ => by simp at hl
  | f :: fs, g :: gs, off, y :: ys, hc, hl, ht, hw => by
    simp only [chkTyL, Bool.and_eq_true] at hc
    have ho := Nat.eq_of_beq_eq_true hc.1.1
    have h0 := ht 0 g rfl
    simp only [List.getElem?_cons_zero] at h0
    obtain ⟨a, ha, hoa⟩ := ih f g.type _ y hc.1.2 h0 (hw 0 g y rfl rfl)
    obtain ⟨b, hb, hob⟩ := open_fields ih fs gs (off + P.cellsOf g.type) ys hc.2 (by simpa using hl) (fun j g' hj => by have := ht (j + 1) g' (by simpa using hj); simpa using this) (fun j g' y' h1 h2 => hw (j + 1) g' y' (by simpa using h1) (by simpa using h2))
    refine ⟨a ++ b, ?_, .cons f fs a b hoa hob⟩
    have : cs.drop off = (cs.drop off).take (P.cellsOf g.type) ++ cs.drop (off + P.cellsOf g.type) := by
      rw [← List.drop_drop]
      exact (List.take_append_drop _ _).symm
    rw [this]
    rw [ho] at ha
    exact ha.app hb

theorem open_pv (hΓ : TabOK P Γ) : ∀ (fuel : Nat) (ty : Ty) (t : TypeId) (cs : List Value) (x : DataW H × List MemPlace), chkTy P Γ ty t = true → DataW.trod enc P w base sp held fuel t cs = some x → Light P t x.1 → ∃ c, RepN w NoM NoD cs c ∧ Of Γ ty c := by
  intro fuel
  induction fuel with
  | zero => intro ty t cs x _ h; simp [DataW.trod] at h
  | succ n ih =>
    have core : ∀ (ty : Ty) (t : TypeId) (cs : List Value) (x : DataW H × List MemPlace), ty.named = false → chkTy P Γ ty t = true → DataW.trod enc P w base sp held (n + 1) t cs = some x → Light P t x.1 → ∃ c, RepN w NoM NoD cs c ∧ Of Γ ty c := by
      intro ty t cs x hn hc h hw
      cases ty with
      | nm t' => cases hn
      | bool =>
        simp only [chkTy] at hc
        obtain ⟨b, rfl, rfl⟩ := DataW.trod_bool (isBoolTy_some hc) h
        exact ⟨_, .one rfl (.bool _ _), .bool b⟩
      | int k =>
        simp only [chkTy] at hc
        obtain ⟨m, rfl, rfl, hwf⟩ := DataW.trod_int (intTy_some hc) h
        exact ⟨_, .one rfl (.int _ _ _), .int k m hwf⟩
      | str =>
        simp only [chkTy] at hc
        obtain ⟨s, rfl, rfl, hs⟩ := DataW.trod_string (isStrTy_some hc) h
        refine ⟨_, .one rfl (.str _ _), .str s ?_⟩
        simp only [Light, DataW.weights, List.all_cons, Bool.and_eq_true, decide_eq_true_eq] at hw
        have := hw.1
        unfold reachBytes at this
        simpa using this
      | sl bytes e =>
        simp only [chkTy] at hc
        split at hc
        · rename_i te hu
          rw [Bool.and_eq_true, Bool.and_eq_true] at hc
          have hby := Nat.eq_of_beq_eq_true hc.1.1
          have hsz := Nat.le_of_ble_eq_true hc.1.2
          rcases DataW.trod_slice hu h with ⟨rfl, rfl⟩ | ⟨a, len, cap, elems, rest, n', hn', rfl, rfl, hb, hl, hm, hlen, hel, _, _⟩
          · refine ⟨[.sl []], .one rfl (.sl _ _ _ _ 0 [] 0 0 (fun _ _ => default) rfl (Nat.le_refl _) (Nat.zero_le _) (fun r hr => absurd hr List.not_mem_nil) (fun h => by omega) (fun j r hj => by simp at hj) (fun j r hj => by simp at hj)), .sl _ _ [] (by simp) (fun r hr => absurd hr List.not_mem_nil)⟩
          · have hnn : n' = n := by omega
            subst hnn
            simp only [Light, DataW.weights, hu, List.all_cons, List.all_append, Bool.and_eq_true, decide_eq_true_eq, List.length_map] at hw
            obtain ⟨hw1, hw2, _⟩ := hw
            have hlight := light_all hw2
            have each : ∀ i, i < len → ∃ r, (∃ ys, w.cells? base (a.add (i * P.cellsOf te)) (P.cellsOf te) = some ys ∧ RepN w NoM NoD ys r) ∧ Of Γ e r := by
              intro i hi
              have h1 := hel i hi
              have hi' : i < elems.length := by omega
              rw [List.getElem?_eq_getElem hi'] at h1
              obtain ⟨ys, hy1, hy2⟩ := Option.bind_eq_some_iff.1 h1
              obtain ⟨r, hr, hor⟩ := ih e te ys _ hc.2 hy2 (hlight _ (List.mem_map.2 ⟨_, List.getElem_mem hi', rfl⟩))
              exact ⟨r, ⟨ys, hy1, hr⟩, hor⟩
            obtain ⟨l, hll, hlq⟩ := choose_list len each
            have hcellsz : ∀ i ys, i < len → w.cells? base (a.add (i * P.cellsOf te)) (P.cellsOf te) = some ys → ys.length = P.cellsOf te ∧ ∀ j, j < P.cellsOf te → w.cell? ((a.add (i * P.cellsOf te)).add j) = ys[j]? := by
              intro i ys _ hy
              have := World.cells?_some hy
              exact ⟨this.2.1, this.2.2⟩
            have hspot : 0 < len → a = ⟨a.block, a.off, none⟩ := by
              intro hpos
              obtain ⟨r, ⟨ys, hy, hr⟩, _⟩ := each 0 hpos
              obtain ⟨hyl, hyc⟩ := hcellsz 0 ys hpos hy
              have h0 := hyc 0 (by omega)
              rw [List.getElem?_eq_getElem (by omega)] at h0
              simp only [Nat.zero_mul, Addr.add, if_true] at h0
              obtain ⟨b, o, s⟩ := a
              cases s with
              | none => rfl
              | some s =>
                simp only [World.cell?] at h0
                split at h0 <;> simp at h0
            have hadd : ∀ i j, 0 < len → (a.add (i * P.cellsOf te)).add j = ⟨a.block, a.off + i * P.cellsOf te + j, none⟩ := by
              intro i j hpos
              rw [hspot hpos]
              unfold Addr.add
              by_cases h1 : i * P.cellsOf te = 0 <;> by_cases h2 : j = 0 <;> simp [h1, h2]
            refine ⟨[.sl l], .one rfl (.sl _ (some a) len cap (P.cellsOf te) l a.block a.off (fun j i => (w.cell? ⟨a.block, a.off + j * P.cellsOf te + i, none⟩).getD default) hll hl hm ?_ (fun hp => congrArg some (hspot hp)) ?_ ?_), .sl bytes e l ?_ ?_⟩
            · intro r hr
              obtain ⟨i, hi⟩ := List.getElem?_of_mem hr
              have hil := (List.getElem?_eq_some_iff.1 hi).1
              obtain ⟨⟨ys, hy, hrn⟩, _⟩ := hlq i r hi
              rw [← hrn.1]
              exact (hcellsz i ys (by omega) hy).1
            · intro j r hj i p hi
              have hjl := (List.getElem?_eq_some_iff.1 hj).1
              have hil := (List.getElem?_eq_some_iff.1 hi).1
              obtain ⟨⟨ys, hy, hrn⟩, _⟩ := hlq j r hj
              obtain ⟨hyl, hyc⟩ := hcellsz j ys (by omega) hy
              have hiy : i < ys.length := by rw [hrn.1]; exact hil
              have := hyc i (by omega)
              rw [hadd j i (by omega), List.getElem?_eq_getElem hiy] at this
              refine ⟨fun h => h, by rw [this]; rfl, ?_⟩
              rw [this]
              exact (hrn.2 i _ p (List.getElem?_eq_getElem hiy) hi).1
            · intro j r hj i p hi
              have hjl := (List.getElem?_eq_some_iff.1 hj).1
              have hil := (List.getElem?_eq_some_iff.1 hi).1
              obtain ⟨⟨ys, hy, hrn⟩, _⟩ := hlq j r hj
              obtain ⟨hyl, hyc⟩ := hcellsz j ys (by omega) hy
              have hiy : i < ys.length := by rw [hrn.1]; exact hil
              have := hyc i (by omega)
              rw [hadd j i (by omega), List.getElem?_eq_getElem hiy] at this
              rw [this]
              exact (hrn.2 i _ p (List.getElem?_eq_getElem hiy) hi).2
            · rw [← hby, hll]
              unfold reachBytes at hw1
              have : len * P.bytesOf te ≤ (elems.length + rest.length) * P.bytesOf te := Nat.mul_le_mul_right _ (by omega)
              omega
            · intro r hr
              obtain ⟨i, hi⟩ := List.getElem?_of_mem hr
              exact (hlq i r hi).2
        · cases hc
      | st fs =>
        simp only [chkTy] at hc
        split at hc
        · rename_i gs hu
          obtain ⟨xs, n', hn', rfl, hl, hxl, hx⟩ := DataW.trod_struct hu h
          have hnn : n' = n := by omega
          subst hnn
          rw [← hl] at hc
          simp only [Light, DataW.weights, hu] at hw
          have hlight := light_each hw
          obtain ⟨c, hr, ho⟩ := open_fields ih fs gs.toList 0 xs hc (by simpa using hxl) (fun j g hj => hx j g (by simpa using hj)) (fun j g y hj hy => hlight j g.type y.1 (by simp [hj]) (by simp [hy]))
          exact ⟨c, by simpa using hr, .st fs c ho⟩
        · cases hc
    intro ty t cs x hc h hw
    cases hty : ty.named with
    | false => exact core ty t cs x hty hc h hw
    | true =>
      cases ty with
      | nm t' =>
        simp only [chkTy, Bool.and_eq_true] at hc
        have := Nat.eq_of_beq_eq_true hc.1
        subst this
        obtain ⟨ty', hty'⟩ := Option.isSome_iff_exists.1 hc.2
        obtain ⟨h1, h2⟩ := hΓ _ _ hty'
        obtain ⟨c, hr, ho⟩ := core ty' t' cs x h1 h2 h hw
        exact ⟨c, hr, .nm t' ty' c hty' ho⟩
      | _ => cases hty

/-! ### arguments -/
def Ty.isSt (Γ : Nat → Option Ty) : Ty → Bool
  | .st _ => true
  | .nm t => (match Γ t with | some (.st _) => true | _ => false)
  | _ => false
/-- an argument of a type -/
def Arg (Γ : Nat → Option Ty) (ty : Ty) (p : PV) : Prop := ∃ c, Of Γ ty c ∧ (bif ty.isSt Γ then p = .agg c else c = [p])
def Args (Γ : Nat → Option Ty) : List Ty → List PV → Prop
  | [], [] => True
  | t :: ts, p :: ps => Arg Γ t p ∧ Args Γ ts ps
  | _, _ => False
def chkArgs (P : Program) (Γ : Nat → Option Ty) : List Ty → List TypeId → Bool
  | [], [] => true
  | ty :: tys, t :: ts => chkTy P Γ ty t && (match P.underlying t with | some (.struct _) => ty.isSt Γ | some (.array _ _) => false | _ => !(ty.isSt Γ)) && P.readableRec t && decide (t < P.types.size) && chkArgs P Γ tys ts
  | _, _ => false

theorem open_arg (hΓ : TabOK P Γ) {ty : Ty} {t : TypeId} (hc : chkTy P Γ ty t = true) (hs : (match P.underlying t with | some (.struct _) => ty.isSt Γ | some (.array _ _) => false | _ => !(ty.isSt Γ)) = true) {r : Reach} {b0 : Nat} {v : Value} {d : DataW H} {ps : List MemPlace} (hval : Value.okWide P w r b0 t v) (h : DataW.Trod enc P w base sp held t v d ps) (hw : Light P t d) :
    ∃ p, Rep w NoM NoD v p ∧ Arg Γ ty p := by
  obtain ⟨fuel, hf⟩ := h
  obtain ⟨c, hr, ho⟩ := open_pv hΓ fuel ty t _ _ hc hf hw
  unfold Value.okWide at hval
  split at hs
  · rename_i fs hu
    rw [hu] at hval
    obtain ⟨cs, rfl, _, _⟩ := hval
    refine ⟨.agg c, .agg _ cs c (by simpa [Value.cells] using hr.1) (fun i v p hv hp => (hr.2 i v p (by simpa [Value.cells] using hv) hp).1) (fun i v p hv hp => (hr.2 i v p (by simpa [Value.cells] using hv) hp).2), c, ho, ?_⟩
    rw [hs]
    rfl
  · cases hs
  · rename_i hn1 hn2
    have hcell : Cell.okWide P w r b0 t v := by
      split at hval
      · rename_i fs hu; exact absurd hu (hn1 fs)
      · rename_i k e hu; exact absurd hu (hn2 k e)
      · exact hval
    have hone : v.oneCell' = true := by
      cases v with
      | agg cs => unfold Cell.okWide Cell.ok at hcell; split at hcell <;> simp_all
      | tuple cs => unfold Cell.okWide Cell.ok at hcell; split at hcell <;> simp_all
      | _ => rfl
    have hcs : v.cells.toList = [v] := by cases v <;> first | rfl | (cases hone)
    rw [hcs] at hr
    have hlen := hr.1
    cases c with
    | nil => simp at hlen
    | cons p rest =>
      have : rest = [] := List.eq_nil_of_length_eq_zero (by simpa using hlen.symm)
      subst this
      refine ⟨p, (hr.2 0 v p rfl rfl).2, [p], ho, ?_⟩
      have : ty.isSt Γ = false := by simpa using hs
      rw [this]
      rfl

theorem open_args (hΓ : TabOK P Γ) {r : Reach} {b0 : Nat} : ∀ {tys : List Ty} {ts : List TypeId} {vs : List Value} {ds : List (DataW H)} {ps : List MemPlace}, chkArgs P Γ tys ts = true → (∀ (j : Nat) t v, ts[j]? = some t → vs[j]? = some v → Value.okWide P w r b0 t v) → DataW.TrodAll enc P w base sp held ts vs ds ps →
    (DataW.weightsEach P ts ds).all (· ≤ reachBytes) = true → ∃ qs, RepL w NoM NoD vs qs ∧ Args Γ tys qs
  | [], [], vs, ds, ps, _, _, h, _ => by
    obtain ⟨rfl, rfl, rfl⟩ := ChangeShapes.trodAll_nil h
    exact ⟨[], RepL.nil _ _ _, trivial⟩
  | [], _ :: _, _, _, _, hc, _, _, _ => by cases hc
  | _ :: _, [], _, _, _, hc, _, _, _ => by cases hc
  | ty :: tys, t :: ts, vs, ds, ps, hc, hv, h, hw => by
    simp only [chkArgs, Bool.and_eq_true] at hc
    obtain ⟨v, vs', d, ds', p, q, rfl, rfl, rfl, h1, h2⟩ := ChangeShapes.trodAll_cons h
    simp only [DataW.weightsEach, List.all_append, Bool.and_eq_true] at hw
    obtain ⟨x, hx, hax⟩ := open_arg hΓ hc.1.1.1.1 hc.1.1.1.2 (hv 0 t v rfl rfl) h1 hw.1
    obtain ⟨qs, hq, haq⟩ := open_args hΓ hc.2 (fun j t' v' h1 h2 => hv (j + 1) t' v' (by simpa using h1) (by simpa using h2)) h2 hw.2
    exact ⟨x :: qs, RepL.cons hx hq, hax, haq⟩

theorem args_stay (hl : laidOutB P = true) {W W' : World} (hb : Below W.heap.size W W') : ∀ {tys : List Ty} {ts : List TypeId} {vs : List Value} {ds : List (DataW H)} {ps : List MemPlace}, chkArgs P Γ tys ts = true → DataW.TrodAll enc P W 0 (fun _ => true) true ts vs ds ps →
    DataW.TrodAll enc P W' 0 (fun b => decide (b < W.heap.size)) true ts vs ds ps
  | [], [], vs, ds, ps, _, h => by
    obtain ⟨rfl, rfl, rfl⟩ := ChangeShapes.trodAll_nil h
    rfl
  | [], _ :: _, _, _, _, hc, _ => by cases hc
  | _ :: _, [], _, _, _, hc, _ => by cases hc
  | ty :: tys, t :: ts, vs, ds, ps, hc, h => by
    simp only [chkArgs, Bool.and_eq_true] at hc
    obtain ⟨v, vs', d, ds', p, q, rfl, rfl, rfl, h1, h2⟩ := ChangeShapes.trodAll_cons h
    refine ⟨p, q, Below.trod hl hc.1.1.2 (by simpa using hc.1.2) h1 hb ?_, args_stay hl hb hc.2 h2, rfl⟩
    obtain ⟨m, hm⟩ := h1
    exact DataW.trod_lt m _ _ _ hm
end

theorem tie_nil {P : Program} : Tie P (tabG []) := fun _ _ h => by cases h
theorem tie_any {P : Program} {r : List (Nat × Fun)} (ht : Tie P (tabG r)) {f : Nat} {d : Fun} (hd : match d with | .ir fn => ∃ Fn, P.funcs[f]? = some Fn ∧ chkFn P Fn fn = true | .cmpstr => CmpOK P f | .ax φ => AxOK P f φ) : Tie P (tabG ((f, d) :: r)) := by
  intro k d' h
  simp only [tabG] at h
  by_cases c : f = k
  · subst c
    simp only [Nat.beq_refl, cond_true, Option.some.injEq] at h
    subst h
    exact hd
  · have : Nat.beq f k = false := by rw [Bool.eq_false_iff]; exact fun h => c (Nat.eq_of_beq_eq_true h)
    rw [this] at h
    exact ht k d' h
theorem tie_ir {P : Program} {r : List (Nat × Fun)} {f : Nat} {Fn : Func} {fn : IFn} (hf : P.funcs[f]? = some Fn) (hc : chkFn P Fn fn = true) (ht : Tie P (tabG r)) : Tie P (tabG ((f, .ir fn) :: r)) := tie_any ht ⟨Fn, hf, hc⟩

/-- A LAW: the evaluator says true of all arguments that there are, so does the machine. -/
theorem law_calls {P : Program} {G : Nat → Option Fun} (hm : P.follows .mixedOrders = true) (hT : Tie P G) {Γ : Nat → Option Ty} {tys : List Ty} {f : Nat} (hpure : ∀ qs, Args Γ tys qs → ∃ n, runs G n (.call f qs []) = some (.ret (.bool true) []))
    {W : World} {args : Array Value} (h : ∃ qs, RepL W NoM NoD args.toList qs ∧ Args Γ tys qs) : Calls P f args W fun e W' => e = .returned (.bool true) ∧ Below W.heap.size W W' := by
  obtain ⟨qs, hq, ha⟩ := h
  obtain ⟨n, hn⟩ := hpure qs ha
  obtain ⟨_, hok⟩ := (runs_sound hm hT n).1 f qs [] _ _ hn
  have hnoM : ∀ b o, Mut NoD (hF []) NoM b o → NoM b o := by
    rintro b o (h | ⟨id, ob, h1, _⟩)
    · exact h
    · simp [hF] at h1
  refine (hok W NoD NoM args ⟨fun b o h => h.elim, Nat.le_refl _, fun id b h => (by cases h), fun id ob h => (by simp [hF] at h), fun i j a b k h => (by simp [hF] at h), fun id ob b o h => (by simp [hF] at h)⟩ (fun _ _ => rfl) (hq.mono fun v p h => h.to (fun b o _ h => hnoM b o h) (fun _ _ h => h))).mono ?_
  rintro e W' ⟨v, D', rfl, _, hk, _, _, _, _, hr⟩
  cases hr with
  | bool _ _ =>
    refine ⟨rfl, (hk.mono (M1 := fun _ _ => False) ?_).below⟩
    rintro b o _ ⟨id, ob, h1, _⟩
    simp [hF] at h1

end Go.Pv
