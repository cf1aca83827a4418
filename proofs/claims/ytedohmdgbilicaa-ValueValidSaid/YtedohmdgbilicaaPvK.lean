/-
  append and clear.
-/
import Derived.Test.YtedohmdgbilicaaPvJ
namespace Go.Pv
open Go.RowKit

section
variable {P : Program} {w : World} {D : Nat → Option Nat} {H : Nat → Option Ob} {F : Nat → Nat → Prop} {n0 m fr : Nat} {a : Act} {e : Nat → PV}

theorem flatten_get {sz : Nat} : ∀ (l : List (List PV)), (∀ r ∈ l, r.length = sz) → l.flatten.length = l.length * sz ∧ ∀ (k : Nat) p, l.flatten[k]? = some p → ∃ r, l[k / sz]? = some r ∧ r[k % sz]? = some p ∧ 0 < sz
  | [], _ => ⟨by simp, fun k p h => by simp at h⟩
  | r :: l, h => by
    have hr := h r List.mem_cons_self
    obtain ⟨h1, h2⟩ := flatten_get l (fun x hx => h x (List.mem_cons_of_mem _ hx))
    refine ⟨by simp [h1, hr, Nat.add_mul]; omega, fun k p hk => ?_⟩
    rw [List.flatten_cons] at hk
    by_cases c1 : k < r.length
    · rw [List.getElem?_append_left c1] at hk
      refine ⟨r, ?_, ?_, by omega⟩
      · rw [Nat.div_eq_of_lt (by omega)]; rfl
      · rw [Nat.mod_eq_of_lt (by omega)]; exact hk
    · rw [List.getElem?_append_right (by omega)] at hk
      obtain ⟨r', e1, e2, e3⟩ := h2 _ p hk
      refine ⟨r', ?_, ?_, e3⟩
      · have : k / sz = (k - r.length) / sz + 1 := by rw [hr, Nat.div_eq_sub_div e3 (by omega)]
        rw [this]
        simpa using e1
      · have : k % sz = (k - r.length) % sz := by rw [hr, Nat.mod_eq_sub_mod (by omega)]
        rw [this]
        exact e2

theorem source_sound (S : Sim w D H F n0 m) {sz n : Nat} {p : PV} {news : List PV} {hr : List Nat} {v : Value} {tx e' : TypeId} (hk : P.underlying tx = some (.slice e')) (h : source H sz p = some (n, news, hr)) (hrep : Rep w (Mut D H F) D v p) :
    ∃ vals, Src P sz tx v n vals w ∧ RepN w (Mut D H F) D vals news := by
  have empty : ∀ (A : Option Addr) (c : Nat), Src P sz tx (.slice A 0 c) 0 [] w := by
    intro A c
    cases A with
    | none => exact Src.ofNil w hk c
    | some ad => exact Src.ofSlice w hk ad 0 c [] (by simp) (fun j u h => by simp at h) (fun u h => by simp at h)
  unfold source at h
  split at h
  · rename_i l
    obtain ⟨hb, h⟩ := bif_some h
    simp only [Option.some.injEq, Prod.mk.injEq] at h
    obtain ⟨rfl, rfl, rfl⟩ := h
    obtain ⟨A, c, sz0, b, o, vs, rfl, hc1, hm1, hr1, hA, hcell, hrep2⟩ := rep_sl hrep
    rcases Nat.eq_zero_or_pos l.length with h0 | h0
    · have : l = [] := List.eq_nil_of_length_eq_zero h0
      subst this
      exact ⟨[], empty A c, rfl, fun i v p h => by simp at h⟩
    · have hA' := hA h0
      subst hA'
      have hsz : ∀ r ∈ l, r.length = sz := by
        intro r hr
        unfold rowsSz at hb
        rw [List.all_eq_true] at hb
        exact Nat.eq_of_beq_eq_true (hb r hr)
      have hsz0 : sz0 = sz := by rw [← hr1 _ (List.getElem_mem h0), hsz _ (List.getElem_mem h0)]
      subst hsz0
      obtain ⟨f1, f2⟩ := flatten_get l hr1
      refine ⟨(List.range (l.length * sz0)).map (fun k => vs (k / sz0) (k % sz0)), Src.ofSlice w hk ⟨b, o, none⟩ l.length c _ (by simp) (fun j u hu => ?_) (fun u hu => ?_), ⟨by simp [f1], fun i u p hu hp => ?_⟩⟩
      · rw [List.getElem?_map] at hu
        obtain ⟨k, hk', rfl⟩ := Option.map_eq_some_iff.1 hu
        have hjn : j < l.length * sz0 := by have := (List.getElem?_eq_some_iff.1 hk').1; simpa using this
        have : k = j := by rw [List.getElem?_range hjn] at hk'; injection hk' with hk'; exact hk'.symm
        subst this
        obtain ⟨r, e1, e2, e3⟩ := f2 k _ (List.getElem?_eq_getElem (show k < l.flatten.length by omega))
        have := (hcell _ r e1 _ _ e2).2.1
        rw [addNone]
        have e4 : o + k / sz0 * sz0 + k % sz0 = o + k := by have := Nat.div_add_mod k sz0; rw [Nat.mul_comm] at this; omega
        rw [e4] at this
        exact this
      · obtain ⟨k, hk', rfl⟩ := List.mem_map.1 hu
        have hkn : k < l.length * sz0 := by simpa using hk'
        obtain ⟨r, e1, e2, e3⟩ := f2 k _ (List.getElem?_eq_getElem (show k < l.flatten.length by omega))
        exact (hcell _ r e1 _ _ e2).2.2
      · rw [List.getElem?_map] at hu
        obtain ⟨k, hk', rfl⟩ := Option.map_eq_some_iff.1 hu
        have hjn : i < l.length * sz0 := by have := (List.getElem?_eq_some_iff.1 hk').1; simpa using this
        have : k = i := by rw [List.getElem?_range hjn] at hk'; injection hk' with hk'; exact hk'.symm
        subst this
        obtain ⟨r, e1, e2, e3⟩ := f2 k p hp
        exact ⟨(hcell _ r e1 _ _ e2).2.2, (hrep2 _ r e1 _ _ e2).to (fun _ _ _ h => h) (fun _ _ h => by cases h)⟩
  · simp only [Option.some.injEq, Prod.mk.injEq] at h
    obtain ⟨rfl, rfl, rfl⟩ := h
    obtain ⟨A, rfl⟩ := rep_ns hrep
    exact ⟨[], empty A 0, rfl, fun i v p h => by simp at h⟩
  · rename_i id sz' off len
    obtain ⟨ob, hob, h⟩ := bind_some h
    obtain ⟨hb, h⟩ := bif_some h
    simp only [Option.some.injEq, Prod.mk.injEq] at h
    obtain ⟨rfl, rfl, rfl⟩ := h
    simp only [Bool.and_eq_true] at hb
    obtain rfl := Nat.eq_of_beq_eq_true hb.1.1
    have hle := Nat.le_of_ble_eq_true hb.2
    obtain ⟨A, c, rfl, hc1, hm1, hd⟩ := rep_ms hrep
    rcases hd with ⟨h1, h2⟩ | ⟨b, nb, h1, rfl, h3, h4⟩
    · subst h2
      exact ⟨[], empty A c, by simp [RepN]⟩
    · obtain ⟨carr, t, e1, e2, e3, e4⟩ := obj_cells S hob h1
      obtain ⟨xs, q1, q2, q3⟩ := obj_part (off := off * sz') (n := len * sz') e2 e4 (by rw [← Nat.add_mul]; exact hle)
      refine ⟨xs, Src.ofSlice w hk _ len c xs q2 (fun j u hu => ?_) q1.ones, q1⟩
      rw [addNone]
      exact cell_of.2 ⟨carr, t, _, e1, q3 j u hu⟩
  · cases h

theorem Src.toRep {tx : TypeId} {v : Value} {n sz : Nat} {vals : List Value} (h : Src P sz tx v n vals w) : vals.length = n * sz := h.newsLen

theorem apC_spec {ob : Ob} {k : Nat} {c : List PV} (hro : ob.ro ≤ ob.cells.length) (h : apC ob k = some c) : c = ob.cells.take k ∧ k ≤ ob.cells.length ∧ ob.ro ≤ k := by
  unfold apC at h
  cases c1 : Nat.beq ob.cells.length k with
  | true =>
    rw [c1] at h
    have := Nat.eq_of_beq_eq_true c1
    simp only [cond_true, Option.some.injEq] at h
    subst h this
    exact ⟨by rw [List.take_length], Nat.le_refl _, hro⟩
  | false =>
    rw [c1, cond_false] at h
    obtain ⟨c2, h⟩ := bif_some h
    rw [Bool.and_eq_true] at c2
    simp only [Option.some.injEq] at h
    exact ⟨h.symm, Nat.le_of_ble_eq_true c2.1, Nat.le_of_ble_eq_true c2.2⟩
/-- append -/
theorem append_sound (S : Sim w D H F n0 m) (hfr : D fr = none) (he : EnvOK w (Mut D H F) D a e) {o : Oper} {sz bytes : Nat} {y z : Opd} (hc : chkH P o.op (.append sz bytes y z) = true) {f : Eff} (h : opAppend H fr sz bytes (y.ev e) (z.ev e) = some f) :
    ∃ v w' D', (execOp a.eval o).run P w = .ok (.value v) w' ∧ Step w D H F n0 m fr w' D' (upH H f.hw) ∧ Rep w' (Mut D' (upH H f.hw) F) D' v f.v := by
  obtain ⟨dst, op, type, pos, after, guard⟩ := o
  cases op <;> simp [chkH] at hc
  rename_i c
  obtain ⟨hb, hc⟩ := hc
  have hb := isB_some hb
  unfold appOK at hc
  split at hc
  · rename_i x u t t' hargs hty
    simp only [Bool.and_eq_true] at hc
    obtain ⟨⟨⟨⟨hsz, hby⟩, ht'⟩, hx⟩, hu⟩ := hc
    obtain ⟨el, hul, hsz⟩ := esz_some hsz
    obtain ⟨i, zv, hi, hib, hiz, hzs, hb1⟩ := bElem_some hby hul
    obtain ⟨el', hel'⟩ := Option.isSome_iff_exists.1 ht'
    have hu' := sliceElem_some hel'
    have hisz : i.size = sz := by
      obtain ⟨i', hi', h⟩ := szOf_info hsz
      rw [hi] at hi'
      injection hi' with hi'
      rw [hi']; exact h
    obtain ⟨cs, hcs⟩ := run_builtin c type .append hb a.eval
    have ha : c.args = #[x, u] := Array.ext' (by simpa using hargs)
    have hat : c.argTypes = #[t, t'] := Array.ext' (by simpa using hty)
    have hx' : (execOp a.eval ⟨dst, .call c, type, pos, after, guard⟩) = (do pure (.value (← Builtin.append_ #[t, t'] type #[a.eval x, a.eval u])) : Sem Next) := by
      simp only [execOp]
      rw [hcs]
      simp only [builtin]
      rw [ha, hat, show (#[x, u] : Array Operand).map a.eval = #[a.eval x, a.eval u] by simp]
    unfold opAppend at h
    obtain ⟨s, hs, h⟩ := bind_some h
    obtain ⟨n, news, hr⟩ := s
    obtain ⟨vals, hsrc, hvals⟩ := source_sound (P := P) (tx := t') S hu' hs (opd_sound he hu)
    have hsrc' : Src P i.size t' (a.eval u) n vals w := by rw [hisz]; exact hsrc
    have rx := opd_sound he hx
    have hnl : news.length = n * sz := by rw [← hvals.1]; exact hsrc.newsLen
    -- a new row
    have grow : ∀ (A : Option Addr) (len cap : Nat) (olds : List Value) (oldP : List PV) (ro : Nat), a.eval x = .slice A len cap → (Builtin.firstCells sz len (.slice A len cap)).run P w.drew = .ok olds.toArray w.drew → olds.length = len * sz → RepN w (Mut D H F) D olds oldP → cap < len + n → (len + n) * bytes ≤ 140737488355328 → len + n ≤ maxLen → ro ≤ (oldP ++ news).length →
        ∀ (H0 : Nat → Option Ob), (∀ id ob, H0 id = some ob → H id = some ob) → ∃ v w' D', (execOp a.eval ⟨dst, .call c, type, pos, after, guard⟩).run P w = .ok (.value v) w' ∧ Step w D H F n0 m fr w' D' (fun j => if j = fr then some ⟨sz, ro, true, oldP ++ news⟩ else H0 j) ∧
          Rep w' (Mut D' (fun j => if j = fr then some ⟨sz, ro, true, oldP ++ news⟩ else H0 j) F) D' v (.ms fr sz 0 (len + n)) := by
      intro A len cap olds oldP ro hv hold hol hor hcap hlim hml hro H0 hH0
      have hfit : Builtin.nextslicecap (len + n) cap * i.bytes ≤ 281474976710656 := by rw [hib]; exact growslice_fits hcap hlim
      have run := run_append_grow_src (P := P) w t t' type el i zv hul hi hiz A len cap olds (by rw [hisz]; exact hold) (a.eval u) n vals hsrc' hcap (by unfold maxLen at hml; omega) hfit
      have hcapge : len + n ≤ grownCap w (len + n) cap el := by
        unfold grownCap Question.cut
        simp only
        omega
      have hcapm : grownCap w (len + n) cap el ≤ maxLen := by
        unfold grownCap Question.cut
        simp only
        unfold maxLen at hml ⊢
        have : w.tape w.drawn (Question.appendCap (len + n) cap el) % (2 ^ 63 - (len + n)) < 2 ^ 63 - (len + n) := Nat.mod_lt _ (by omega)
        omega
      have harr : ((olds ++ vals).toArray ++ Builtin.zeroCells zv.cells (grownCap w (len + n) cap el - (len + n))).size = (oldP ++ news).length + (grownCap w (len + n) cap el - (len + n)) * zv.cells.size := by
        rw [Array.size_append, size_zeroCells]
        simp only [List.size_toArray, List.length_append, hor.1, hvals.1]
      have st := step_new (fr := fr) S hfr (w' := w.drew.alloc (.cells ((olds ++ vals).toArray ++ Builtin.zeroCells zv.cells (grownCap w (len + n) cap el - (len + n))) el)) rfl rfl rfl rfl (ob := ⟨sz, ro, true, oldP ++ news⟩) hro (by show (oldP ++ news).length ≤ _; rw [harr]; omega) (fun k p hp => by
        simp only at hp
        by_cases c1 : k < oldP.length
        · rw [List.getElem?_append_left c1] at hp
          have hlt : k < olds.length := by rw [hor.1]; exact c1
          have h0 := hor.2 k _ p (List.getElem?_eq_getElem hlt) hp
          refine ⟨olds[k], ?_, h0.1, h0.2⟩
          rw [Array.getElem?_append_left (by simp; omega)]
          simp [List.getElem?_append_left hlt]
        · rw [List.getElem?_append_right (by omega)] at hp
          have hlt : k - oldP.length < vals.length := by rw [hvals.1]; exact (List.getElem?_eq_some_iff.1 hp).1
          have h0 := hvals.2 _ _ p (List.getElem?_eq_getElem hlt) hp
          refine ⟨vals[k - oldP.length], ?_, h0.1, h0.2⟩
          have := hor.1
          rw [Array.getElem?_append_left (by simp; omega)]
          simp only [List.getElem?_toArray]
          rw [List.getElem?_append_right (by omega)]
          rw [← List.getElem?_eq_getElem hlt]
          congr 1
          omega) hH0
      have hbs : bsize (w.drew.alloc (.cells ((olds ++ vals).toArray ++ Builtin.zeroCells zv.cells (grownCap w (len + n) cap el - (len + n))) el)) w.heap.size = some ((oldP ++ news).length + (grownCap w (len + n) cap el - (len + n)) * zv.cells.size) := by
        unfold bsize
        have : (w.drew.alloc (.cells ((olds ++ vals).toArray ++ Builtin.zeroCells zv.cells (grownCap w (len + n) cap el - (len + n))) el)).heap[w.heap.size]? = some (.cells ((olds ++ vals).toArray ++ Builtin.zeroCells zv.cells (grownCap w (len + n) cap el - (len + n))) el (0, 0)) := by
          show (w.heap.push _)[w.heap.size]? = _
          rw [Array.getElem?_push, if_pos rfl]
        rw [this]
        simp only [harr]
      refine ⟨_, _, _, by rw [hx', hv, Sem.run_bind]; simp only [run]; rfl, st, .ms _ _ _ _ _ _ _ hcapge hcapm (.inr ⟨w.heap.size, _, by simp, by simp, hbs, ?_⟩)⟩
      rw [hzs, hisz, Nat.zero_add]
      have e1 : (oldP ++ news).length = (len + n) * sz := by rw [List.length_append, ← hor.1, hol, hnl, Nat.add_mul]
      rw [e1, ← Nat.add_mul]
      exact Nat.mul_le_mul_right _ (by omega)
    simp only at h
    split at h
    · -- nothing was there
      rename_i sz0 hy0
      obtain ⟨hlim, h⟩ := bif_some h
      have hlim := Nat.le_of_ble_eq_true hlim
      rw [hy0] at rx
      obtain ⟨A, hv⟩ := rep_ns rx
      cases n with
      | zero =>
        simp only at h
        injection h with h
        subst h
        have : vals = [] := List.eq_nil_of_length_eq_zero (by rw [hsrc.newsLen]; simp)
        subst this
        have run := run_append_nothing (P := P) w t t' type el i hul hi A 0 0 (Nat.le_refl _) (a.eval u) hsrc'
        refine ⟨.slice A 0 0, w, D, by rw [hx', hv]; simp only [Sem.run_bind, run]; rfl, Step.same S rfl rfl rfl rfl, .ns _ _ _⟩
      | succ n =>
        simp only at h
        injection h with h
        subst h
        have hml : 0 + (n + 1) ≤ maxLen := by
          have := Nat.mul_le_mul_left (n + 1) hb1
          unfold maxLen
          omega
        obtain ⟨v, w', D', h1, h2, h3⟩ := grow A 0 0 [] [] 0 hv (by cases A <;> simp [Builtin.firstCells, loadCells, loadCellsFrom]) (by simp) ⟨rfl, fun i v p h => by simp at h⟩ (by omega) (by rw [Nat.zero_add]; exact hlim) hml (Nat.zero_le _) H (fun _ _ h => h)
        rw [Nat.zero_add] at h3
        exact ⟨v, w', D', h1, h2, h3⟩
    · rename_i id sz' off len hy0
      obtain ⟨ob, hob, h⟩ := bind_some h
      obtain ⟨hcd, h⟩ := bif_some h
      obtain ⟨kc, hkc, h⟩ := bind_some h
      injection h with h
      subst h
      simp only [Bool.and_eq_true] at hcd
      obtain ⟨⟨⟨⟨hgr, q1⟩, q2⟩, q3⟩, q5⟩ := hcd
      obtain rfl := Nat.eq_of_beq_eq_true q1
      obtain rfl := Nat.eq_of_beq_eq_true q3
      obtain ⟨kt, hcl0, hrok⟩ := apC_spec (S.ok id ob hob).1 hkc
      have hcl : kc.length = len * sz' := by rw [kt, List.length_take]; omega
      have hlim := Nat.le_of_ble_eq_true q5
      have hml : len + n ≤ maxLen := by
        have := Nat.mul_le_mul_left (len + n) hb1
        unfold maxLen
        omega
      rw [hy0] at rx
      obtain ⟨A, cap, hv, hc1, hc2, hd⟩ := rep_ms rx
      have hro := (S.ok id ob hob).1
      have hH : (fun j => if j = fr then some (⟨sz', ob.ro, true, kc ++ news⟩ : Ob) else if j = id then none else H j) = upH H [(id, none), (fr, some ⟨sz', ob.ro, true, kc ++ news⟩)] := rfl
      have hH0 : ∀ j ob', (if j = id then none else H j) = some ob' → H j = some ob' := by
        intro j ob' h
        split at h
        · cases h
        · exact h
      by_cases hroom : len + n ≤ cap
      · rcases hd with ⟨h1, h2⟩ | ⟨b, nb, h1, hA, h3, h4⟩
        · -- nothing at all
          have hn0 : n = 0 := by omega
          subst hn0 h1 h2
          have hv0 : vals = [] := List.eq_nil_of_length_eq_zero (by rw [hsrc.newsLen]; simp)
          have hnews : news = [] := List.eq_nil_of_length_eq_zero (by rw [hnl]; simp)
          have hcs0 : kc = [] := List.eq_nil_of_length_eq_zero (by rw [hcl]; simp)
          subst hv0 hnews
          have run := run_append_nothing (P := P) w t t' type el i hul hi A 0 0 (Nat.le_refl _) (a.eval u) hsrc'
          have hk : Keeps (MutO D H) w w := Keeps.refl _ _
          have hsub : ∀ b o, b < w.heap.size → Mut D (upH H [(id, none), (fr, some ⟨sz', ob.ro, true, kc ++ []⟩)]) F b o → Mut D H F b o := by
            rintro b o _ (h | ⟨j, ob2, e1, e2, e3⟩)
            · exact .inl h
            · rw [← hH] at e1
              by_cases e : j = fr
              · rw [e] at e2; rw [hfr] at e2; cases e2
              · simp only [if_neg e] at e1
                exact .inr ⟨j, ob2, hH0 j ob2 e1, e2, e3⟩
          refine ⟨.slice A 0 0, w, D, by rw [hx', hv]; simp only [Sem.run_bind, run]; rfl, ⟨⟨S.fr, S.le, S.own, fun j ob2 h => ?_, fun i j a b k hi hj di dj => ?_, fun j ob2 b o h hd => ?_⟩, hk, fun _ _ h => h, hsub, fun _ h _ => h⟩, .ms _ _ _ _ _ _ _ (Nat.zero_le _) (Nat.zero_le _) (.inl ⟨rfl, rfl⟩)⟩
          · rw [← hH] at h
            by_cases e : j = fr
            · simp [e] at h
              subst h
              exact ⟨by rw [hcs0]; simpa using hrok, .inl ⟨by simp [hcs0], by rw [e]; exact hfr⟩⟩
            · simp only [if_neg e] at h
              exact (S.ok j ob2 (hH0 j ob2 h)).mono (Keeps.refl (fun _ _ => False) _) (fun _ _ h => h.elim) hsub (fun _ _ h => h) (fun h => h) (fun _ _ _ h => h)
          · rw [← hH] at hi hj
            have ne : ∀ x, D x = some k → x ≠ fr := fun x hx e => by rw [e, hfr] at hx; cases hx
            simp only [if_neg (ne i di)] at hi
            simp only [if_neg (ne j dj)] at hj
            exact S.inj i j a b k (hH0 _ _ hi) (hH0 _ _ hj) di dj
          · rw [← hH] at h
            have e : j ≠ fr := fun e => by rw [e, hfr] at hd; cases hd
            simp only [if_neg e] at h
            exact S.dis j ob2 b o (hH0 j ob2 h) hd
        · -- there is room
          obtain ⟨carr, ty, e1, e2, e3, e4⟩ := obj_cells S hob h1
          subst hA
          have hnb : nb = carr.size := by unfold bsize at h3; rw [e1] at h3; injection h3 with h3; exact h3.symm
          have hfit : len * sz' + vals.length ≤ carr.size := by
            have : (len + n) * sz' ≤ cap * sz' := Nat.mul_le_mul_right _ hroom
            rw [hsrc.newsLen, ← Nat.add_mul]
            rw [Nat.zero_add] at h4
            omega
          have run := run_append_room_src (P := P) w t t' type el i hul hi b 0 len cap (a.eval u) n vals hsrc' hroom (fun j hj => by
            have hlt : 0 + len * i.size + j < carr.size := by rw [hisz]; omega
            rw [cell_of.2 ⟨carr, ty, _, e1, Array.getElem?_eq_getElem hlt⟩]; rfl) (fun j hj => by simp [World.frozen?, e1])
          rw [Nat.zero_add, hisz] at run
          obtain ⟨a1, a2, a3, a4, a5, carr', a6, a7, a8⟩ := setCells_heap b ty vals (len * sz') w carr e1 hfit
          have hcn : (kc ++ news).length = len * sz' + vals.length := by rw [List.length_append, hcl, hvals.1]
          have st := step_upd (fr := fr) (id' := fr) (ob' := ⟨sz', ob.ro, true, kc ++ news⟩) S hob h1 e1 (.inr ⟨hfr, Nat.le_refl _, by omega, hgr⟩) a1 a5 a6 a7 (fun k hk => by rw [a8 k, if_neg (by omega)]) a2 a3 a4 rfl
            (by rw [hcn]; show ob.ro ≤ _; omega) (fun _ => hgr) (by show (kc ++ news).length ≤ _; rw [hcn, a7]; exact hfit) (fun k p hp => by
              simp only at hp
              rw [a8 k]
              by_cases c1 : k < kc.length
              · rw [if_neg (by omega)]
                rw [List.getElem?_append_left c1, kt, List.getElem?_take, if_pos (by omega)] at hp
                exact e4 k p hp
              · rw [List.getElem?_append_right (by omega)] at hp
                have hlt : k - kc.length < vals.length := by rw [hvals.1]; exact (List.getElem?_eq_some_iff.1 hp).1
                rw [if_pos (by omega), ← hcl]
                have h0 := hvals.2 _ _ p (List.getElem?_eq_getElem hlt) hp
                exact ⟨_, List.getElem?_eq_getElem hlt, h0.1, h0.2⟩)
          refine ⟨_, _, _, by rw [hx', hv]; simp only [Nat.zero_mul, Sem.run_bind, run]; rfl, st, .ms _ _ _ _ _ _ _ hroom hc2 (.inr ⟨b, nb, by simp, by simp, ?_, h4⟩)⟩
          exact st.keeps.bsize h3
      · have hold : ∃ olds : List Value, (Builtin.firstCells sz' len (.slice A len cap)).run P w.drew = .ok olds.toArray w.drew ∧ olds.length = len * sz' ∧ RepN w (Mut D H F) D olds kc := by
          rcases hd with ⟨h1, h2⟩ | ⟨b, nb, h1, hA, h3, h4⟩
          · subst h2
            have hcs0 : kc = [] := List.eq_nil_of_length_eq_zero (by rw [hcl]; simp)
            exact ⟨[], by cases A <;> simp [Builtin.firstCells, loadCells, loadCellsFrom], by simp, by rw [hcs0]; exact ⟨rfl, fun i v p h => by simp at h⟩⟩
          · obtain ⟨carr, ty, e1, e2, e3, e4⟩ := obj_cells S hob h1
            obtain ⟨xs, q1, q2, q3⟩ := obj_part (off := 0) (n := len * sz') e2 e4 (by omega)
            have e0 : (ob.cells.drop 0).take (len * sz') = kc := by rw [List.drop_zero, kt]
            rw [e0] at q1
            subst hA
            refine ⟨xs, ?_, q2, q1⟩
            refine run_firstCells_some (P := P) w.drew sz' len _ len cap xs q2 (fun j v hj => ?_)
            rw [addNone]
            have := q3 j v hj
            rw [Nat.zero_mul]
            show w.cell? _ = _
            exact cell_of.2 ⟨carr, ty, _, e1, this⟩
        obtain ⟨olds, o1, o2, o3⟩ := hold
        exact grow A len cap olds kc ob.ro hv o1 o2 o3 (by omega) hlim hml (by rw [List.length_append]; omega) (fun j => if j = id then none else H j) hH0
    · cases h
  · cases hc

/-- clear -/
theorem clear_sound (S : Sim w D H F n0 m) (he : EnvOK w (Mut D H F) D a e) {o : Oper} {sz : Nat} {z : List PV} {y : Opd} (hc : chkH P o.op (.clear sz z y) = true) {f : Eff} (h : opClear H sz z (y.ev e) = some f) :
    ∃ v w', (execOp a.eval o).run P w = .ok (.value v) w' ∧ Step w D H F n0 m fr w' D (upH H f.hw) ∧ f.v = .tup [] ∧ v = .tuple #[] := by
  obtain ⟨dst, op, type, pos, after, guard⟩ := o
  cases op <;> simp [chkH] at hc
  rename_i c
  obtain ⟨hb, hc⟩ := hc
  have hb := isB_some hb
  unfold clrOK at hc
  split at hc
  · rename_i x t hargs hty
    rw [Bool.and_eq_true] at hc
    obtain ⟨hz, hx⟩ := hc
    obtain ⟨el, hul, hsz, hz, hzl⟩ := zElem_some hz
    obtain ⟨v, hv, hzr⟩ := zero_sound (w := w) (M := Mut D H F) (D := D) hz
    obtain ⟨cs, hcs⟩ := run_builtin c type .clear hb a.eval
    have ha : c.args = #[x] := Array.ext' (by simpa using hargs)
    have hat : c.argTypes = #[t] := Array.ext' (by simpa using hty)
    have hx' : (execOp a.eval ⟨dst, .call c, type, pos, after, guard⟩) = (do pure (.value (← Builtin.clear_ #[t] type #[a.eval x])) : Sem Next) := by
      simp only [execOp]
      rw [hcs]
      simp only [builtin]
      rw [ha, hat, show (#[x] : Array Operand).map a.eval = #[a.eval x] by simp]
    have rx := opd_sound he hx
    unfold opClear at h
    split at h
    · rename_i sz0 hy0
      injection h with h
      subst h
      rw [hy0] at rx
      obtain ⟨A, hvx⟩ := rep_ns rx
      exact ⟨.tuple #[], w, by rw [hx', hvx]; cases A <;> simp [Builtin.clear_, run_underlying hul], Step.same S rfl rfl rfl rfl, rfl, rfl⟩
    · rename_i id sz' off hy0
      injection h with h
      subst h
      rw [hy0] at rx
      obtain ⟨A, c', hvx, _⟩ := rep_ms rx
      exact ⟨.tuple #[], w, by rw [hx', hvx]; cases A <;> simp [Builtin.clear_, run_underlying hul], Step.same S rfl rfl rfl rfl, rfl, rfl⟩
    · rename_i id sz' off len hy0
      obtain ⟨ob, hob, h⟩ := bind_some h
      obtain ⟨hcd, h⟩ := bif_some h
      injection h with h
      subst h
      simp only [Bool.and_eq_true] at hcd
      obtain ⟨⟨⟨⟨q1, q2⟩, q3⟩, q4⟩, q5⟩ := hcd
      obtain rfl := Nat.eq_of_beq_eq_true q1
      have hosz := Nat.eq_of_beq_eq_true q2
      have hro := Nat.le_of_ble_eq_true q4
      have hle := Nat.le_of_ble_eq_true q5
      rw [hy0] at rx
      obtain ⟨A, cap, hvx, hc1, hc2, hd⟩ := rep_ms rx
      rcases hd with ⟨_, h2⟩ | ⟨b, nb, h1, hA, h3, h4⟩
      · omega
      · subst hA
        obtain ⟨carr, ty, e1, e2, e3, e4⟩ := obj_cells S hob h1
        have hvs : v.cells.size = sz' := by rw [hzr.1, hzl]
        have hmade := made_sound hzr hzl (len + 1)
        have hzc : Builtin.zeroCells v.cells (len + 1) = madeCells v.cells ((len + 1) * sz') := by unfold Builtin.zeroCells madeCells; rw [hvs]
        generalize hcells : madeCells v.cells ((len + 1) * sz') = mc at *
        have hrl : (rep z (len + 1)).length = (len + 1) * sz' := by rw [rep_length, hzl]
        generalize hrz : rep z (len + 1) = rz at *
        have hml : mc.toList.length = rz.length := by simpa using hmade.1
        have hle2 : off * sz' + rz.length ≤ ob.cells.length := by rw [hrl, ← Nat.add_mul]; exact hle
        have hst := run_storeCells_cells (P := P) b (off * sz') mc.toList 0 w (fun j hj => by
            have : off * sz' + 0 + j < carr.size := by omega
            rw [cell_of.2 ⟨carr, ty, _, e1, Array.getElem?_eq_getElem this⟩]; rfl) (fun j hj => by simp [World.frozen?, e1]) (by
              intro u hu
              obtain ⟨i, hi⟩ := List.getElem?_of_mem hu
              have hlt : i < rz.length := by rw [← hml]; exact (List.getElem?_eq_some_iff.1 hi).1
              exact (hmade.2 i u _ (by simpa using hi) (List.getElem?_eq_getElem hlt)).1)
        simp only [Nat.add_zero] at hst
        obtain ⟨a1, a2, a3, a4, a5, carr', a6, a7, a8⟩ := setCells_heap b ty mc.toList (off * sz') w carr e1 (by omega)
        refine ⟨.tuple #[], w.setCells b (off * sz') mc.toList, ?_, ?_, rfl, rfl⟩
        · rw [hx', hvx]
          simp [Builtin.clear_, run_underlying hul, hv, hzc, hst]
        · have := step_upd (fr := fr) (id' := id) (ob' := ⟨sz', ob.ro, ob.gr, ob.cells.take (off * sz') ++ (rz ++ ob.cells.drop (off * sz' + rz.length))⟩) S hob h1 e1 (.inl rfl) a1 a5 a6 a7 (fun k hk => by rw [a8 k, if_neg (by omega)]) a2 a3 a4 rfl
            (by simp only [List.length_append, List.length_take, List.length_drop]; omega) (fun h => h) (by simp only [List.length_append, List.length_take, List.length_drop]; omega) (fun k p hp => by
              simp only at hp
              rw [a8 k, hml]
              by_cases c1 : k < off * sz'
              · rw [if_neg (by omega)]
                rw [List.getElem?_append_left (by rw [List.length_take]; omega), List.getElem?_take, if_pos c1] at hp
                exact e4 k p hp
              · rw [List.getElem?_append_right (by rw [List.length_take]; omega), List.length_take, Nat.min_eq_left (by omega)] at hp
                by_cases c2 : k - off * sz' < rz.length
                · rw [if_pos (by omega)]
                  rw [List.getElem?_append_left c2] at hp
                  have hlt : k - off * sz' < mc.toList.length := by omega
                  have h0 := hmade.2 (k - off * sz') _ p (by rw [← Array.getElem?_toList]; exact List.getElem?_eq_getElem hlt) hp
                  exact ⟨_, List.getElem?_eq_getElem hlt, h0.1, h0.2⟩
                · rw [if_neg (by omega)]
                  rw [List.getElem?_append_right (by omega), List.getElem?_drop] at hp
                  exact e4 k p (by rw [← hp]; congr 1; omega))
          have hDe : (fun j => if j = id then some b else D j) = D := by
            funext j
            by_cases e : j = id
            · rw [if_pos e, e, h1]
            · rw [if_neg e]
          have hHe : (fun j => if j = id then some (⟨sz', ob.ro, ob.gr, ob.cells.take (off * sz') ++ (rz ++ ob.cells.drop (off * sz' + rz.length))⟩ : Ob) else if j = id then none else H j) = upH H [(id, some ⟨sz', ob.ro, ob.gr, ob.cells.take (off * sz') ++ (rz ++ ob.cells.drop (off * sz' + rz.length))⟩)] := by
            funext j
            by_cases e : j = id <;> simp [upH, e]
          rw [hDe, hHe] at this
          exact this
    · cases h
  · cases hc

end
end Go.Pv
