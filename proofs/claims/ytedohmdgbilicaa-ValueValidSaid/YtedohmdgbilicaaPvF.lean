/-
  'opP', the rest: values laid together, comparisons of structs, and the whole.
-/
import Derived.Test.YtedohmdgbilicaaPvE
namespace Go.Pv
open Go.RowKit

/-- Cells, one by one. -/
def RepC (w : World) (M : Nat → Nat → Prop) (D : Nat → Option Nat) (xs : Array Value) (c : List PV) : Prop :=
  xs.size = c.length ∧ ∀ (i : Nat) v p, xs[i]? = some v → c[i]? = some p → v.oneCell' = true ∧ Rep w M D v p

section
variable {P : Program} {w : World} {M : Nat → Nat → Prop} {D : Nat → Option Nat} {a : Act} {e : Nat → PV}

theorem cells_sound {v : Value} {p : PV} (h : Rep w M D v p) (hf : p.fits = true) : RepC w M D v.cells p.cs := by
  have one : ∀ (v : Value) (p : PV), v.oneCell' = true → Rep w M D v p → RepC w M D #[v] [p] := fun v p h1 h2 =>
    ⟨rfl, fun i u q hu hq => by
      cases i with
      | zero => simp at hu hq; subst hu hq; exact ⟨h1, h2⟩
      | succ i => simp at hu⟩
  cases h with
  | un => simp [PV.fits] at hf
  | tup => simp [PV.fits] at hf
  | agg _ xs c hl h1 h => exact ⟨hl, fun i v p hv hp => ⟨h1 i v p hv hp, h i v p hv hp⟩⟩
  | bool _ b => exact one _ _ rfl (.bool _ _)
  | int _ k n => exact one _ _ rfl (.int _ _ _)
  | str _ s => exact one _ _ rfl (.str _ _)
  | sl _ A n c sz l b o vs hn hc hm hr hA hcell hrep => exact one _ _ rfl (.sl _ A n c sz l b o vs hn hc hm hr hA hcell hrep)
  | rf _ b o c vs hcell hrep => exact one _ _ rfl (.rf _ b o c vs hcell hrep)
  | bx _ b id off h => exact one _ _ rfl (.bx _ b id off h)
  | ms _ A len c id sz off hc hm h => exact one _ _ rfl (.ms _ A len c id sz off hc hm h)
  | ns _ A sz => exact one _ _ rfl (.ns _ A sz)
  | np => exact one _ _ rfl (.np _)
  | fn _ f xs ys a b ha hb h1 h2 => exact one _ _ rfl (.fn _ f xs ys a b ha hb h1 h2)
  | nf => exact one _ _ rfl (.nf _)

theorem foldset (off : Nat) : ∀ (l : List Value) (k : Nat) (cs : Array Value), ((l.zipIdx k).foldl (fun (cs : Array Value) (x : Value × Nat) => cs.setIfInBounds (off + x.2) x.1) cs).size = cs.size ∧
    ∀ i : Nat, ((l.zipIdx k).foldl (fun (cs : Array Value) (x : Value × Nat) => cs.setIfInBounds (off + x.2) x.1) cs)[i]? = if off + k ≤ i ∧ i < off + k + l.length ∧ i < cs.size then l[i - (off + k)]? else cs[i]?
  | [], k, cs => ⟨rfl, fun i => by simp; omega⟩
  | x :: r, k, cs => by
    obtain ⟨h1, h2⟩ := foldset off r (k + 1) (cs.setIfInBounds (off + k) x)
    simp only [List.zipIdx_cons, List.foldl_cons]
    refine ⟨by rw [h1]; simp, fun i => ?_⟩
    rw [h2 i]
    simp only [Array.size_setIfInBounds, List.length_cons]
    by_cases c1 : off + (k + 1) ≤ i ∧ i < off + (k + 1) + r.length ∧ i < cs.size
    · rw [if_pos c1, if_pos (by omega)]
      have : i - (off + k) = (i - (off + (k + 1))) + 1 := by omega
      rw [this, List.getElem?_cons_succ]
    · rw [if_neg c1]
      by_cases c2 : off + k ≤ i ∧ i < off + k + (r.length + 1) ∧ i < cs.size
      · rw [if_pos c2]
        have : i = off + k := by omega
        subst this
        rw [Array.getElem?_setIfInBounds_self_of_lt c2.2.2]
        simp
      · rw [if_neg c2, Array.getElem?_setIfInBounds]
        split
        · rename_i he
          subst he
          split
          · rename_i hlt
            exact absurd ⟨Nat.le_refl _, by omega, hlt⟩ c2
          · rename_i hlt
            rw [Array.getElem?_eq_none (by omega)]
        · rfl

/-- One part laid over cells. -/
theorem lay_sound {xs ys : Array Value} {c d : List PV} {off : Nat} (hx : RepC w M D xs c) (hy : RepC w M D ys d) (hle : off + d.length ≤ c.length) :
    RepC w M D (ys.zipIdx.foldl (fun (cs : Array Value) (x : Value × Nat) => cs.setIfInBounds (off + x.2) x.1) xs) (c.take off ++ (d ++ c.drop (off + d.length))) := by
  have e : ys.zipIdx.foldl (fun (cs : Array Value) (x : Value × Nat) => cs.setIfInBounds (off + x.2) x.1) xs = (ys.toList.zipIdx 0).foldl (fun (cs : Array Value) (x : Value × Nat) => cs.setIfInBounds (off + x.2) x.1) xs := by
    rw [← Array.foldl_toList, Array.toList_zipIdx]
  rw [e]
  obtain ⟨h1, h2⟩ := foldset off ys.toList 0 xs
  have hyl : ys.toList.length = d.length := by rw [Array.length_toList]; exact hy.1
  refine ⟨by rw [h1, hx.1]; simp only [List.length_append, List.length_take, List.length_drop]; omega, fun i v p hv hp => ?_⟩
  rw [h2 i] at hv
  simp only [Nat.add_zero, hyl] at hv
  by_cases c1 : i < off
  · rw [if_neg (by omega)] at hv
    rw [List.getElem?_append_left (by rw [List.length_take]; omega), List.getElem?_take, if_pos c1] at hp
    exact hx.2 i v p hv hp
  · rw [List.getElem?_append_right (by rw [List.length_take]; omega), List.length_take, Nat.min_eq_left (by omega)] at hp
    by_cases c2 : i - off < d.length
    · rw [if_pos ⟨by omega, by omega, by have := hx.1; omega⟩] at hv
      rw [List.getElem?_append_left c2] at hp
      exact hy.2 (i - off) v p (by simpa using hv) hp
    · rw [if_neg (by omega)] at hv
      rw [List.getElem?_append_right (by omega), List.getElem?_drop] at hp
      exact hx.2 i v p hv (by rw [← hp]; congr 1; omega)

theorem consts_sound : ∀ {vs : List Value} {ps : List PV}, constsOK vs ps = true → RepC w M D vs.toArray ps
  | [], [], _ => ⟨rfl, fun i v p h => by simp at h⟩
  | v :: vs, [], h => by simp [constsOK] at h
  | [], p :: ps, h => by simp [constsOK] at h
  | v :: vs, p :: ps, h => by
    simp only [constsOK, Bool.and_eq_true] at h
    obtain ⟨h1, h2⟩ := consts_sound h.2
    refine ⟨by simp at h1 ⊢; exact h1, fun i u q hu hq => ?_⟩
    cases i with
    | zero => simp at hu hq; subst hu hq; exact ⟨h.1.2, const_sound h.1.1⟩
    | succ i => exact h2 i u q (by simpa using hu) (by simpa using hq)

theorem zero_sound {t : TypeId} {z : List PV} (h : zeroOK P t z = true) : ∃ v, (∀ w', (zeroValue t).run P w' = .ok v w') ∧ RepC w M D v.cells z := by
  unfold zeroOK at h
  cases hi : P.info? t with
  | none => simp [hi] at h
  | some i =>
    cases hz : i.zero with
    | none => simp [hi, hz] at h
    | some v =>
      simp only [hi, hz, Option.bind_some] at h
      refine ⟨v, fun w' => by simp [zeroValue, typeInfo, hi, hz], ?_⟩
      have := consts_sound (w := w) (M := M) (D := D) h
      simpa using this

theorem fill_sound {t : TypeId} {place : Nat → Option (Nat × Nat)} (hp : ∀ i f n, fieldAt? P t i = some f → szOf P f.type = some n → place i = some (f.offset, n)) (he : EnvOK w M D a e) :
    ∀ (ps : List (Nat × Operand)) (ps' : List (Nat × Nat × Opd)) (cells : Array Value) (z c : List PV), partsOK P t ps ps' = true → RepC w M D cells z → fillP z (evParts e ps') = some c →
      ∃ xs, Instr.fill place cells (ps.map fun x => (x.1, a.eval x.2)) = some xs ∧ RepC w M D xs c
  | [], [], cells, z, c, _, hz, h => by
    simp [evParts, fillP] at h
    subst h
    exact ⟨cells, rfl, hz⟩
  | [], _ :: _, _, _, _, h, _, _ => by simp [partsOK] at h
  | _ :: _, [], _, _, _, h, _, _ => by simp [partsOK] at h
  | (i, x) :: r, (off, n, y) :: r', cells, z, c, hc, hz, h => by
    simp only [partsOK, Bool.and_eq_true] at hc
    obtain ⟨h1, h2⟩ := hc
    split at h1
    · rename_i f hf
      simp only [Bool.and_eq_true] at h1
      have ho := Nat.eq_of_beq_eq_true h1.1.1
      have hn := optEq_some h1.1.2
      subst ho
      simp only [evParts, fillP] at h
      obtain ⟨hb, h⟩ := bif_some h
      simp only [Bool.and_eq_true] at hb
      have hl := Nat.eq_of_beq_eq_true hb.1.1
      have hle := Nat.le_of_ble_eq_true hb.1.2
      have hv := cells_sound (opd_sound he h1.2) hb.2
      subst hl
      obtain ⟨xs, hx, hr⟩ := fill_sound hp he r r' _ _ c h2 (lay_sound hz hv hle) h
      refine ⟨xs, ?_, hr⟩
      simp only [List.map_cons, Instr.fill, hp i f _ hf hn]
      rw [if_neg (by simp; have := hv.1; have := hz.1; omega)]
      exact hx
    · cases h1

theorem eqf_sound {d : Nat} {f : TypeId → EqT → Bool} {g : EqT → List PV → List PV → Option Bool}
    (hfg : ∀ (t : TypeId) (q : EqT) (n : Nat) (ag : Bool) (x y : Value) (c c' : List PV) (b : Bool), tyOK P t n ag = true → f t q = true → RepC w M D x.cells c → RepC w M D y.cells c' → (ag = true → ∃ xs ys, x = .agg xs ∧ y = .agg ys) → (ag = false → x.oneCell' = true ∧ y.oneCell' = true) → g q c c' = some b → (Op.equalIn d t x y).run P w = .ok b w) :
    ∀ (fs : List Field) (gs : List (Nat × Nat × EqT)) (xs ys : Array Value) (c c' : List PV) (b : Bool), eqOK.fieldsEqOK P f fs gs = true → RepC w M D xs c → RepC w M D ys c' → eqf g gs c c' = some b → (Op.eqFields d xs ys fs).run P w = .ok b w
  | [], [], xs, ys, c, c', b, _, _, _, h => by simp [eqf] at h; subst h; rfl
  | [], _ :: _, _, _, _, _, _, h, _, _, _ => by simp [eqOK.fieldsEqOK] at h
  | _ :: _, [], _, _, _, _, _, h, _, _, _ => by simp [eqOK.fieldsEqOK] at h
  | fd :: r, (off, k, q) :: r', xs, ys, c, c', b, hc, hx, hy, h => by
    simp only [eqOK.fieldsEqOK, Bool.and_eq_true, Bool.or_eq_true] at hc
    obtain ⟨⟨⟨⟨h1, h2⟩, h3⟩, h4⟩, h5⟩ := hc
    have ho := Nat.eq_of_beq_eq_true h2
    subst ho
    simp only [eqf] at h
    obtain ⟨hbb, h⟩ := bif_some h
    rw [Bool.and_eq_true] at hbb
    have hl1 := Nat.le_of_ble_eq_true hbb.1
    have hl2 := Nat.le_of_ble_eq_true hbb.2
    obtain ⟨b1, hb1, h⟩ := bind_some h
    obtain ⟨b2, hb2, h⟩ := bind_some h
    injection h with h
    subst h
    have hname : fd.name ≠ "_" := by simpa using h1
    have rest := eqf_sound hfg r r' xs ys c c' b2 h5 hx hy hb2
    have key : ∃ u v, (part fd.type xs fd.offset).run P w = .ok u w ∧ (part fd.type ys fd.offset).run P w = .ok v w ∧ (Op.equalIn d fd.type u v).run P w = .ok b1 w := by
      have cut : ∀ {zs : Array Value} {l : List PV}, RepC w M D zs l → fd.offset + k ≤ l.length → RepC w M D (zs.extract fd.offset (fd.offset + k)) ((l.drop fd.offset).take k) := by
        intro zs l hz hl
        refine ⟨by rw [Array.size_extract, List.length_take, List.length_drop, hz.1]; omega, fun i v p hv hp => ?_⟩
        have hi : i < k := by have := (List.getElem?_eq_some_iff.1 hp).1; rw [List.length_take] at this; omega
        rw [List.getElem?_take, if_pos hi, List.getElem?_drop] at hp
        rw [Array.getElem?_extract] at hv
        split at hv
        · exact hz.2 _ v p hv hp
        · cases hv
      rcases h3 with h3 | h3
      · obtain ⟨ha, hn, _⟩ := tyOK_spec h3
        refine ⟨.agg (xs.extract fd.offset (fd.offset + k)), .agg (ys.extract fd.offset (fd.offset + k)), ?_, ?_, ?_⟩
        · simp [part, run_isAgg ha, run_sizeOf hn]
        · simp [part, run_isAgg ha, run_sizeOf hn]
        · exact hfg fd.type q k true _ _ _ _ b1 h3 h4 (cut hx hl1) (cut hy hl2) (fun _ => ⟨_, _, rfl, rfl⟩) (fun h => by cases h) hb1
      · obtain ⟨ha, hn, hk⟩ := tyOK_spec h3
        have hk1 : k = 1 := hk rfl
        subst hk1
        have hxs : fd.offset < xs.size := by have := hx.1; omega
        have hys : fd.offset < ys.size := by have := hy.1; omega
        have one : ∀ {zs : Array Value} {l : List PV} (hz : RepC w M D zs l) (hlt : fd.offset < zs.size) (hl : fd.offset + 1 ≤ l.length), zs[fd.offset].oneCell' = true ∧ RepC w M D zs[fd.offset].cells ((l.drop fd.offset).take 1) := by
          intro zs l hz hlt hl
          have h0 := hz.2 fd.offset _ _ (Array.getElem?_eq_getElem hlt) (List.getElem?_eq_getElem (show fd.offset < l.length by omega))
          refine ⟨h0.1, ?_⟩
          have e1 : (l.drop fd.offset).take 1 = [l[fd.offset]] := by rw [List.drop_eq_getElem_cons (show fd.offset < l.length by omega)]; rfl
          rw [e1]
          generalize l[fd.offset] = lv at h0
          have hc : zs[fd.offset].cells = #[zs[fd.offset]] := by
            have := h0.1
            cases hv : zs[fd.offset] <;> first | rfl | (rw [hv] at this; cases this)
          rw [hc]
          exact ⟨rfl, fun i u p hu hp => by
            cases i with
            | zero =>
              have hu : zs[fd.offset] = u := by simpa using hu
              have hp : lv = p := by simpa using hp
              subst hu hp
              exact h0
            | succ i => simp at hu⟩
        refine ⟨xs[fd.offset], ys[fd.offset], ?_, ?_, ?_⟩
        · simp [part, run_isAgg ha, Array.getElem?_eq_getElem hxs]
        · simp [part, run_isAgg ha, Array.getElem?_eq_getElem hys]
        · exact hfg fd.type q 1 false _ _ _ _ b1 h3 h4 (one hx hxs hl1).2 (one hy hys hl2).2 (fun h => by cases h) (fun _ => ⟨(one hx hxs hl1).1, (one hy hys hl2).1⟩) hb1
    obtain ⟨u, v, e1, e2, e3⟩ := key
    simp only [Op.eqFields, if_pos hname, Sem.run_bind, e1, e2, e3, Result.andThen_ok]
    cases b1
    · simp
    · simpa using rest

end
end Go.Pv
