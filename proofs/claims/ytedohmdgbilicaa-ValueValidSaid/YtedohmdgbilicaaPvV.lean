/-
  Runs along a trace, over objects of which only their rows are known (views); what calls and loops answer is handed in.
-/
import Derived.Test.YtedohmdgbilicaaPvU
import Derived.Test.YtedohmdgbilicaaPvO
namespace Go.Pv

abbrev Views := List (Nat × List (List PV))
def plain : PV → Bool
  | .bool _ => true
  | .int _ _ => true
  | .str _ => true
  | .sl _ => true
  | .np => true
  | .nf => true
  | _ => false
/-- cells that are known as rows of plain values -/
structure ViewOK (sz : Nat) (cells : List PV) (rows : List (List PV)) : Prop where
  flat : cells = rows.flatten
  size : ∀ r ∈ rows, r.length = sz
  plain : ∀ r ∈ rows, ∀ p ∈ r, plain p = true
def VOK (H : Nat → Option Ob) (vw : Views) : Prop := ∀ id rows, look vw id = some rows → ∃ ob, H id = some ob ∧ ViewOK ob.sz ob.cells rows

def Met (l : List Prop) : Prop := ∀ p ∈ l, p
theorem Met.nil : Met [] := fun _ h => absurd h List.not_mem_nil
theorem Met.cons {p : Prop} {l : List Prop} (h : p) (hl : Met l) : Met (p :: l) := fun q hq => by
  rcases List.mem_cons.1 hq with rfl | hq
  · exact h
  · exact hl q hq
theorem Met.left {a b : List Prop} (h : Met (a ++ b)) : Met a := fun p hp => h p (List.mem_append_left _ hp)
theorem Met.right {a b : List Prop} (h : Met (a ++ b)) : Met b := fun p hp => h p (List.mem_append_right _ hp)
theorem Met.head {p : Prop} {l : List Prop} (h : Met (p :: l)) : p := h p List.mem_cons_self
theorem Met.tail {p : Prop} {l : List Prop} (h : Met (p :: l)) : Met l := fun q hq => h q (List.mem_cons_of_mem _ hq)

/-! ### what is handed over -/
def mapV {α β : Type} (f : α → Option (β × List Prop)) : List α → Option (List β × List Prop)
  | [] => some ([], [])
  | x :: r => (f x).bind fun y => (mapV f r).bind fun l => some (y.1 :: l.1, y.2 ++ l.2)
theorem mapV_sound {α β : Type} {f : α → Option (β × List Prop)} {g : α → Option β} (hf : ∀ a y, f a = some y → Met y.2 → g a = some y.1) : ∀ (l : List α) (y : List β × List Prop), mapV f l = some y → Met y.2 → mapO g l = some y.1
  | [], y, h, _ => by
    simp only [mapV, Option.some.injEq] at h
    subst h
    rfl
  | a :: r, y, h, hm => by
    obtain ⟨b, hb, h⟩ := obind_some h
    obtain ⟨l, hl, h⟩ := obind_some h
    simp only [Option.some.injEq] at h
    subst h
    simp only [mapO]
    rw [hf a b hb hm.left, Option.bind_some, mapV_sound hf r l hl hm.right]
    rfl

def fzV (H : Nat → Option Ob) (vw : Views) : Nat → PV → Option ((PV × List Nat) × List Prop)
  | 0, _ => none
  | n + 1, v =>
    match v with
    | .bx _ _ => none
    | .ns _ => some ((.sl [], []), [])
    | .ms id sz off len =>
      (H id).bind fun ob =>
        match look vw id with
        | some rows => bif Nat.beq ob.sz sz && (Nat.beq off 0 && Nat.ble 1 n) then some ((.sl rows, [id]), [len = rows.length]) else none
        | none =>
          bif Nat.beq ob.sz sz && Nat.ble ((off + len) * sz) ob.cells.length then
            (mapV (fzV H vw n) ((ob.cells.drop (off * sz)).take (len * sz))).bind fun l =>
              some ((.sl (rowsOf sz len (l.1.map (·.1))), id :: (l.1.map (·.2)).flatten), l.2)
          else none
    | .agg c => (mapV (fzV H vw n) c).bind fun l => some ((.agg (l.1.map (·.1)), (l.1.map (·.2)).flatten), l.2)
    | .tup c => (mapV (fzV H vw n) c).bind fun l => some ((.tup (l.1.map (·.1)), (l.1.map (·.2)).flatten), l.2)
    | .fn f a b => (mapV (fzV H vw n) a).bind fun l => (mapV (fzV H vw n) b).bind fun m => some ((.fn f (l.1.map (·.1)) (m.1.map (·.1)), (l.1.map (·.2)).flatten ++ (m.1.map (·.2)).flatten), l.2 ++ m.2)
    | v => some ((v, []), [])

theorem mapO_plain {H : Nat → Option Ob} {n : Nat} : ∀ (l : List PV), (∀ p ∈ l, plain p = true) → mapO (fz H (n + 1)) l = some (l.map fun p => (p, []))
  | [], _ => rfl
  | p :: r, h => by
    have h1 : fz H (n + 1) p = some (p, []) := by
      have := h p List.mem_cons_self
      cases p <;> first | rfl | (simp [plain] at this)
    simp only [mapO]
    rw [h1, Option.bind_some, mapO_plain r (fun q hq => h q (List.mem_cons_of_mem _ hq))]
    rfl
theorem flatten_nils {α β : Type} : ∀ (l : List α), (l.map fun _ => ([] : List β)).flatten = []
  | [] => rfl
  | _ :: r => by simp [flatten_nils r]
theorem rowsOf_flat (sz : Nat) : ∀ (rows : List (List PV)), (∀ r ∈ rows, r.length = sz) → rowsOf sz rows.length rows.flatten = rows
  | [], _ => rfl
  | r :: rs, h => by
    have h0 := h r List.mem_cons_self
    simp only [List.length_cons, rowsOf, List.flatten_cons]
    rw [List.take_left' h0, List.drop_left' h0, rowsOf_flat sz rs (fun q hq => h q (List.mem_cons_of_mem _ hq))]
theorem flat_length (sz : Nat) : ∀ (rows : List (List PV)), (∀ r ∈ rows, r.length = sz) → rows.flatten.length = rows.length * sz
  | [], _ => by simp
  | r :: rs, h => by
    simp only [List.flatten_cons, List.length_append, List.length_cons]
    rw [flat_length sz rs (fun q hq => h q (List.mem_cons_of_mem _ hq)), h r List.mem_cons_self, Nat.add_mul]
    omega
theorem ViewOK.all {sz : Nat} {cells : List PV} {rows : List (List PV)} (h : ViewOK sz cells rows) : ∀ p ∈ cells, Pv.plain p = true := fun p hp => by
  rw [h.flat] at hp
  obtain ⟨r, hr, hp⟩ := List.mem_flatten.1 hp
  exact h.plain r hr p hp

theorem fz_view {H : Nat → Option Ob} {n k : Nat} (hk : k = n + 1) {id sz len : Nat} {ob : Ob} {rows : List (List PV)} (hH : H id = some ob) (hv : ViewOK ob.sz ob.cells rows) (hs : ob.sz = sz) (hl : len = rows.length) : fz H (k + 1) (.ms id sz 0 len) = some (.sl rows, [id]) := by
  subst hs hl
  have hc : ob.cells.length = rows.length * ob.sz := by rw [hv.flat]; exact flat_length _ _ hv.size
  simp only [fz]
  rw [hH, Option.bind_some]
  have hb : (Nat.beq ob.sz ob.sz && Nat.ble ((0 + rows.length) * ob.sz) ob.cells.length) = true := by
    rw [hc]
    simp
  rw [hb]
  simp only [cond_true, Nat.zero_mul, List.drop_zero]
  rw [← hc, List.take_length]
  have := mapO_plain (H := H) (n := n) ob.cells hv.all
  rw [hk, this, Option.bind_some]
  simp only [List.map_map, Option.some.injEq, Prod.mk.injEq]
  refine ⟨?_, ?_⟩
  · have e2 : List.map ((fun x : PV × List Nat => x.fst) ∘ fun p => (p, ([] : List Nat))) ob.cells = ob.cells := by
      rw [show ((fun x : PV × List Nat => x.fst) ∘ fun p => (p, ([] : List Nat))) = fun p => p from rfl]
      exact List.map_id' _
    rw [e2, hv.flat, rowsOf_flat _ _ hv.size]
  · have e2 : ((fun x : PV × List Nat => x.snd) ∘ fun p => (p, ([] : List Nat))) = fun _ => [] := rfl
    rw [e2, flatten_nils]

theorem fzV_sound {H : Nat → Option Ob} {vw : Views} (hv : VOK H vw) : ∀ (n : Nat) (v : PV) (y : (PV × List Nat) × List Prop), fzV H vw n v = some y → Met y.2 → fz H n v = some y.1
  | 0, v, y, h, _ => by cases h
  | n + 1, v, y, h, hm => by
    have ih := fzV_sound hv n
    cases v with
    | ms id sz off len =>
      simp only [fzV] at h
      obtain ⟨ob, hob, h⟩ := obind_some h
      cases hl : look vw id with
      | some rows =>
        rw [hl] at h
        simp only at h
        obtain ⟨ob', hob', hok⟩ := hv id rows hl
        rw [hob] at hob'
        injection hob' with hob'
        subst hob'
        cases hc : (Nat.beq ob.sz sz && (Nat.beq off 0 && Nat.ble 1 n)) with
        | false => rw [hc] at h; cases h
        | true =>
          rw [hc] at h
          simp only [cond_true, Option.some.injEq] at h
          subst h
          simp only [Bool.and_eq_true] at hc
          obtain ⟨c1, c2, c3⟩ := hc
          have c2 := Nat.eq_of_beq_eq_true c2
          have c1 := Nat.eq_of_beq_eq_true c1
          have c3 := Nat.le_of_ble_eq_true c3
          subst c2
          obtain ⟨m, rfl⟩ : ∃ m, n = m + 1 := ⟨n - 1, by omega⟩
          exact fz_view rfl hob hok c1 hm.head
      | none =>
        rw [hl] at h
        simp only at h
        simp only [fz]
        rw [hob, Option.bind_some]
        cases hc : (Nat.beq ob.sz sz && Nat.ble ((off + len) * sz) ob.cells.length) with
        | false => rw [hc] at h; cases h
        | true =>
          rw [hc] at h
          simp only [cond_true] at h ⊢
          obtain ⟨l, hl, h⟩ := obind_some h
          simp only [Option.some.injEq] at h
          subst h
          rw [mapV_sound ih _ l hl hm, Option.bind_some]
    | agg c =>
      simp only [fzV] at h
      obtain ⟨l, hl, h⟩ := obind_some h
      simp only [Option.some.injEq] at h
      subst h
      simp only [fz]
      rw [mapV_sound ih _ l hl hm, Option.bind_some]
    | tup c =>
      simp only [fzV] at h
      obtain ⟨l, hl, h⟩ := obind_some h
      simp only [Option.some.injEq] at h
      subst h
      simp only [fz]
      rw [mapV_sound ih _ l hl hm, Option.bind_some]
    | fn f a b =>
      simp only [fzV] at h
      obtain ⟨l, hl, h⟩ := obind_some h
      obtain ⟨m, hm2, h⟩ := obind_some h
      simp only [Option.some.injEq] at h
      subst h
      simp only [fz]
      rw [mapV_sound ih _ l hl hm.left, Option.bind_some, mapV_sound ih _ m hm2 hm.right, Option.bind_some]
    | bx _ _ => cases h
    | _ =>
      simp only [fzV, Option.some.injEq] at h
      subst h
      rfl

def passLV (f : PV → List Nat → Option (Pass × List Prop)) : List PV → List Nat → Option ((List PV × List Nat × List Nat) × List Prop)
  | [], ids => some (([], ids, []), [])
  | p :: r, ids => (f p ids).bind fun x => (passLV f r x.1.ids).bind fun y => some ((x.1.v :: y.1.1, y.1.2.1, x.1.fr ++ y.1.2.2), x.2 ++ y.2)
theorem passLV_sound {f : PV → List Nat → Option (Pass × List Prop)} {g : PV → List Nat → Option Pass} (hf : ∀ a ids y, f a ids = some y → Met y.2 → g a ids = some y.1) : ∀ (l : List PV) (ids : List Nat) (y : (List PV × List Nat × List Nat) × List Prop), passLV f l ids = some y → Met y.2 → passL g l ids = some y.1
  | [], ids, y, h, _ => by
    simp only [passLV, Option.some.injEq] at h
    subst h
    rfl
  | a :: r, ids, y, h, hm => by
    simp only [passLV] at h
    obtain ⟨b, hb, h⟩ := obind_some h
    obtain ⟨l, hl, h⟩ := obind_some h
    simp only [Option.some.injEq] at h
    subst h
    simp only [passL]
    rw [hf a ids b hb hm.left, Option.bind_some, passLV_sound hf r _ l hl hm.right]
    rfl
def passV (H : Nat → Option Ob) (vw : Views) (byRef : Bool) : Nat → PV → List Nat → Option (Pass × List Prop)
  | 0, _, _ => none
  | n + 1, v, ids =>
    match v with
    | .bx id off => let x := addId ids id; some (⟨.bx x.1 off, x.2, []⟩, [])
    | .ms id sz off len =>
      bif byRef then (let x := addId ids id; some (⟨.ms x.1 sz off len, x.2, []⟩, []))
      else (fzV H vw 8 (.ms id sz off len)).bind fun x => some (⟨x.1.1, ids, x.1.2⟩, x.2)
    | .ns _ => some (⟨.sl [], ids, []⟩, [])
    | .agg c => (passLV (passV H vw byRef n) c ids).bind fun y => some (⟨.agg y.1.1, y.1.2.1, y.1.2.2⟩, y.2)
    | .tup c => (passLV (passV H vw byRef n) c ids).bind fun y => some (⟨.tup y.1.1, y.1.2.1, y.1.2.2⟩, y.2)
    | .fn f a b => (passLV (passV H vw byRef n) a ids).bind fun y => (passLV (passV H vw byRef n) b y.1.2.1).bind fun z => some (⟨.fn f y.1.1 z.1.1, z.1.2.1, y.1.2.2 ++ z.1.2.2⟩, y.2 ++ z.2)
    | v => some (⟨v, ids, []⟩, [])
theorem passV_sound {H : Nat → Option Ob} {vw : Views} (hv : VOK H vw) {byRef : Bool} : ∀ (n : Nat) (v : PV) (ids : List Nat) (y : Pass × List Prop), passV H vw byRef n v ids = some y → Met y.2 → pass H byRef n v ids = some y.1
  | 0, v, ids, y, h, _ => by cases h
  | n + 1, v, ids, y, h, hm => by
    have ih := passV_sound hv (byRef := byRef) n
    cases v with
    | ms id sz off len =>
      cases byRef with
      | true =>
        simp only [passV, cond_true, Option.some.injEq] at h
        subst h
        rfl
      | false =>
        simp only [passV, cond_false] at h
        obtain ⟨x, hx, h⟩ := obind_some h
        simp only [Option.some.injEq] at h
        subst h
        simp only [pass, cond_false]
        rw [fzV_sound hv 8 _ x hx hm, Option.bind_some]
    | agg c =>
      simp only [passV] at h
      obtain ⟨l, hl, h⟩ := obind_some h
      simp only [Option.some.injEq] at h
      subst h
      simp only [pass]
      rw [passLV_sound ih _ _ l hl hm, Option.bind_some]
    | tup c =>
      simp only [passV] at h
      obtain ⟨l, hl, h⟩ := obind_some h
      simp only [Option.some.injEq] at h
      subst h
      simp only [pass]
      rw [passLV_sound ih _ _ l hl hm, Option.bind_some]
    | fn f a b =>
      simp only [passV] at h
      obtain ⟨l, hl, h⟩ := obind_some h
      obtain ⟨m, hm2, h⟩ := obind_some h
      simp only [Option.some.injEq] at h
      subst h
      simp only [pass]
      rw [passLV_sound ih _ _ l hl hm.left, Option.bind_some, passLV_sound ih _ _ m hm2 hm.right, Option.bind_some]
    | _ =>
      simp only [passV, Option.some.injEq] at h
      subst h
      rfl
theorem passL_plain {H : Nat → Option Ob} {byRef : Bool} {n : Nat} : ∀ (l : List PV) (ids : List Nat), (∀ p ∈ l, plain p = true) → passL (pass H byRef (n + 1)) l ids = some (l, ids, [])
  | [], _, _ => rfl
  | p :: r, ids, h => by
    have h1 : pass H byRef (n + 1) p ids = some ⟨p, ids, []⟩ := by
      have := h p List.mem_cons_self
      cases p <;> first | rfl | (simp [plain] at this)
    simp only [passL]
    rw [h1, Option.bind_some, passL_plain r ids (fun q hq => h q (List.mem_cons_of_mem _ hq))]
    rfl

def passObsV (H : Nat → Option Ob) (vw : Views) (byRef own : Bool) : Nat → Nat → List Nat → Option ((List Ob × List Nat × List Nat) × List Prop)
  | 0, _, _ => none
  | n + 1, k, ids =>
    match ids[k]? with
    | none => some (([], ids, []), [])
    | some id =>
      (H id).bind fun ob =>
        match look vw id with
        | some _ => (passObsV H vw byRef own n (k + 1) ids).bind fun z => some ((⟨ob.sz, ob.ro, ob.gr && own, ob.cells⟩ :: z.1.1, z.1.2.1, z.1.2.2), z.2)
        | none => (passLV (passV H vw byRef 8) ob.cells ids).bind fun y =>
          (passObsV H vw byRef own n (k + 1) y.1.2.1).bind fun z => some ((⟨ob.sz, ob.ro, ob.gr && own, y.1.1⟩ :: z.1.1, z.1.2.1, y.1.2.2 ++ z.1.2.2), y.2 ++ z.2)
theorem passObsV_sound {H : Nat → Option Ob} {vw : Views} (hv : VOK H vw) {byRef own : Bool} : ∀ (n k : Nat) (ids : List Nat) (y : (List Ob × List Nat × List Nat) × List Prop), passObsV H vw byRef own n k ids = some y → Met y.2 → passObs H byRef own n k ids = some y.1
  | 0, _, _, y, h, _ => by cases h
  | n + 1, k, ids, y, h, hm => by
    simp only [passObsV] at h
    simp only [passObs]
    cases hk : ids[k]? with
    | none =>
      rw [hk] at h
      simp only [Option.some.injEq] at h
      subst h
      rfl
    | some id =>
      rw [hk] at h
      simp only at h ⊢
      obtain ⟨ob, hob, h⟩ := obind_some h
      rw [hob, Option.bind_some]
      cases hl : look vw id with
      | some rows =>
        rw [hl] at h
        simp only at h
        obtain ⟨ob', hob', hok⟩ := hv id rows hl
        rw [hob] at hob'
        injection hob' with hob'
        subst hob'
        obtain ⟨z, hz, h⟩ := obind_some h
        simp only [Option.some.injEq] at h
        subst h
        rw [passL_plain (n := 7) ob.cells ids hok.all, Option.bind_some, passObsV_sound hv n _ _ z hz hm]
        rfl
      | none =>
        rw [hl] at h
        simp only at h
        obtain ⟨x, hx, h⟩ := obind_some h
        obtain ⟨z, hz, h⟩ := obind_some h
        simp only [Option.some.injEq] at h
        subst h
        rw [passLV_sound (passV_sound hv 8) _ _ x hx hm.left, Option.bind_some, passObsV_sound hv n _ _ z hz hm.right]
        rfl

/-! ### a loop's head -/
def virtHV (vw : Views) : Nat → List (Nat × Ob) → List (Nat × Ob) × Nat × List (Nat × Ob)
  | nx, [] => ([], nx, [])
  | nx, (id, ob) :: r =>
    match look vw id with
    | some _ => let z := virtHV vw nx r; ((id, ob) :: z.1, z.2.1, z.2.2)
    | none => let y := virtL nx ob.cells; let z := virtHV vw y.2.1 r; ((id, ⟨ob.sz, ob.ro, ob.gr, y.1⟩) :: z.1, z.2.1, y.2.2 ++ z.2.2)
theorem virtL_plain : ∀ (l : List PV) (nx : Nat), (∀ p ∈ l, plain p = true) → virtL nx l = (l, nx, [])
  | [], _, _ => rfl
  | p :: r, nx, h => by
    have h2 := virtL_plain r nx (fun q hq => h q (List.mem_cons_of_mem _ hq))
    have h1 := h p List.mem_cons_self
    cases p <;> first | (simp [plain] at h1; done) | (simp only [virtL, h2])
/-- each id stands once -/
def Once (h : List (Nat × Ob)) : Prop := (h.map (·.1)).Nodup
/-- every object of a viewed id is what its view says -/
def VAll (h : List (Nat × Ob)) (vw : Views) : Prop := ∀ id ob rows, (id, ob) ∈ h → look vw id = some rows → ∀ p ∈ ob.cells, plain p = true
theorem virtHV_eq {vw : Views} : ∀ (h : List (Nat × Ob)) (nx : Nat), VAll h vw → virtHV vw nx h = virtH nx h
  | [], _, _ => rfl
  | (id, ob) :: r, nx, hv => by
    have hr : VAll r vw := fun i o rs hi hl => hv i o rs (List.mem_cons_of_mem _ hi) hl
    simp only [virtHV, virtH]
    cases hl : look vw id with
    | some rows =>
      simp only
      rw [virtL_plain ob.cells nx (hv id ob rows List.mem_cons_self hl), virtHV_eq r nx hr]
      rfl
    | none =>
      simp only
      rw [virtHV_eq r _ hr]
def hasId (h : List (Nat × Ob)) (id : Nat) : Nat := (h.filter fun x => Nat.beq x.1 id).length
/-- the heap as it is looked at by the id: the first of each -/
def onceB : List (Nat × Ob) → Bool
  | [] => true
  | (k, _) :: r => (r.all fun x => !(Nat.beq x.1 k)) && onceB r
theorem look_once {h : List (Nat × Ob)} : ∀ {id : Nat} {ob : Ob}, onceB h = true → (id, ob) ∈ h → look h id = some ob := by
  induction h with
  | nil => intro id ob _ hm; cases hm
  | cons x r ih =>
    obtain ⟨k, o⟩ := x
    intro id ob ho hm
    simp only [onceB, Bool.and_eq_true, List.all_eq_true] at ho
    simp only [look]
    rcases List.mem_cons.1 hm with e | hm
    · injection e with e1 e2
      subst e1 e2
      simp
    · have : Nat.beq k id = false := by
        have := ho.1 _ hm
        simp only [Bool.not_eq_true'] at this
        rw [Bool.eq_false_iff] at this ⊢
        intro c
        have := Nat.eq_of_beq_eq_true c
        subst this
        simp at *
      rw [this]
      simp only [cond_false]
      exact ih ho.2 hm
theorem VOK.allIn {h : List (Nat × Ob)} {vw : Views} (ho : onceB h = true) (hv : VOK (look h) vw) : VAll h vw := fun id ob rows hm hl => by
  obtain ⟨ob', hob, hok⟩ := hv id rows hl
  rw [look_once ho hm] at hob
  injection hob with hob
  subst hob
  exact hok.all

theorem look_app {α : Type} {a b : List (Nat × α)} {id : Nat} : look (a ++ b) id = match look a id with | some x => some x | none => look b id := by
  induction a with
  | nil => rfl
  | cons x r ih =>
    obtain ⟨k, o⟩ := x
    simp only [List.cons_append, look]
    cases Nat.beq k id with
    | true => rfl
    | false => exact ih
theorem virtHV_look {vw : Views} : ∀ (h : List (Nat × Ob)) (nx : Nat) (id : Nat) (rows : List (List PV)) (ob : Ob), look vw id = some rows → look h id = some ob → look (virtHV vw nx h).1 id = some ob
  | [], _, _, _, _, _, h => by cases h
  | (k, o) :: r, nx, id, rows, ob, hl, h => by
    simp only [look] at h
    cases c : Nat.beq k id with
    | true =>
      have := Nat.eq_of_beq_eq_true c
      subst this
      rw [c] at h
      simp only [cond_true, Option.some.injEq] at h
      subst h
      simp only [virtHV, hl, look, c, cond_true]
    | false =>
      rw [c] at h
      simp only [cond_false] at h
      simp only [virtHV]
      cases look vw k with
      | some _ =>
        simp only [look, c, cond_false]
        exact virtHV_look r nx id rows ob hl h
      | none =>
        simp only [look, c, cond_false]
        exact virtHV_look r _ id rows ob hl h

def gcV (vw : Views) (m : Nat) (live : List Nat) (s : St) : Option ((List PV × List Ob) × List Prop) :=
  bif onceB s.heap then
    let a := virtL s.nx (mask live 0 s.env)
    let b := virtHV vw a.2.1 s.heap
    let H := look (b.1 ++ (a.2.2 ++ b.2.2))
    (passLV (passV H vw true 8) a.1 (upTo m)).bind fun y =>
      (passObsV H vw true true 32 0 y.1.2.1).bind fun z => some ((y.1.1, z.1.1), y.2 ++ z.2)
  else none
theorem gcV_sound {vw : Views} {m : Nat} {live : List Nat} {s : St} (hv : VOK (look s.heap) vw) {y : (List PV × List Ob) × List Prop} (h : gcV vw m live s = some y) (hm : Met y.2) : gc m live s = some y.1 := by
  unfold gcV at h
  unfold gc
  cases ho : onceB s.heap with
  | false => rw [ho] at h; cases h
  | true =>
    rw [ho] at h
    simp only [cond_true] at h ⊢
    have e := virtHV_eq (vw := vw) s.heap (virtL s.nx (mask live 0 s.env)).2.1 (hv.allIn ho)
    have hv' : VOK (look ((virtHV vw (virtL s.nx (mask live 0 s.env)).2.1 s.heap).1 ++ ((virtL s.nx (mask live 0 s.env)).2.2 ++ (virtHV vw (virtL s.nx (mask live 0 s.env)).2.1 s.heap).2.2))) vw := by
      intro id rows hl
      obtain ⟨ob, hob, hok⟩ := hv id rows hl
      refine ⟨ob, ?_, hok⟩
      rw [look_app, virtHV_look s.heap _ id rows ob hl hob]
    rw [← e]
    obtain ⟨x, hx, h⟩ := obind_some h
    obtain ⟨z, hz, h⟩ := obind_some h
    simp only [Option.some.injEq] at h
    subst h
    rw [passLV_sound (passV_sound hv' 8) _ _ x hx hm.left, Option.bind_some, passObsV_sound hv' 32 _ _ z hz hm.right, Option.bind_some]

/-! ### a call -/
/-- An answer: what is answered; which of the objects that come with it are known as rows (by their places there). -/
structure Ans where
  r : Rs
  vw : Views
def backObsV (g : Nat → Nat) (vw : Views) : Nat → List Ob → Option (List (Nat × Option Ob) × List Prop × Views)
  | _, [] => some ([], [], [])
  | k, ob :: r =>
    match look vw k with
    | some rows => (backObsV g vw (k + 1) r).bind fun m => some ((g k, some ob) :: m.1, ViewOK ob.sz ob.cells rows :: m.2.1, (g k, rows) :: m.2.2)
    | none => (mapO (back g 8) ob.cells).bind fun l => (backObsV g vw (k + 1) r).bind fun m => some ((g k, some ⟨ob.sz, ob.ro, ob.gr, l⟩) :: m.1, m.2)
theorem mapO_back_plain {g : Nat → Nat} {n : Nat} : ∀ (l : List PV), (∀ p ∈ l, plain p = true) → mapO (back g (n + 1)) l = some l
  | [], _ => rfl
  | p :: r, h => by
    have h1 : back g (n + 1) p = some p := by
      have := h p List.mem_cons_self
      cases p <;> first | rfl | (simp [plain] at this)
    simp only [mapO]
    rw [h1, Option.bind_some, mapO_back_plain r (fun q hq => h q (List.mem_cons_of_mem _ hq))]
    rfl
theorem backObsV_sound {g : Nat → Nat} {vw : Views} : ∀ (l : List Ob) (k : Nat) (y : List (Nat × Option Ob) × List Prop × Views), backObsV g vw k l = some y → Met y.2.1 → backObs g k l = some y.1
  | [], k, y, h, _ => by
    simp only [backObsV, Option.some.injEq] at h
    subst h
    rfl
  | ob :: r, k, y, h, hm => by
    simp only [backObsV] at h
    simp only [backObs]
    cases hl : look vw k with
    | some rows =>
      rw [hl] at h
      simp only at h
      obtain ⟨m, hm', h⟩ := obind_some h
      simp only [Option.some.injEq] at h
      subst h
      rw [mapO_back_plain ob.cells (Met.head hm).all, Option.bind_some, backObsV_sound r _ m hm' (Met.tail hm)]
      rfl
    | none =>
      rw [hl] at h
      simp only at h
      obtain ⟨l, hl', h⟩ := obind_some h
      obtain ⟨m, hm', h⟩ := obind_some h
      simp only [Option.some.injEq] at h
      subst h
      rw [hl', Option.bind_some, backObsV_sound r _ m hm' hm]
      rfl
theorem backObsV_views {g : Nat → Nat} {vw : Views} : ∀ (l : List Ob) (k : Nat) (y : List (Nat × Option Ob) × List Prop × Views), backObsV g vw k l = some y → Met y.2.1 → ∀ id rows, (id, rows) ∈ y.2.2 → ∃ ob, (id, some ob) ∈ y.1 ∧ ViewOK ob.sz ob.cells rows
  | [], k, y, h, _ => by
    simp only [backObsV, Option.some.injEq] at h
    subst h
    intro id rows hx
    cases hx
  | ob :: r, k, y, h, hm => by
    simp only [backObsV] at h
    cases hl : look vw k with
    | some rows =>
      rw [hl] at h
      simp only at h
      obtain ⟨m, hm', h⟩ := obind_some h
      simp only [Option.some.injEq] at h
      subst h
      intro id rws hx
      rcases List.mem_cons.1 hx with e | hx
      · injection e with e1 e2
        subst e1 e2
        exact ⟨ob, List.mem_cons_self, Met.head hm⟩
      · obtain ⟨o, ho, hv⟩ := backObsV_views r _ m hm' (Met.tail hm) id rws hx
        exact ⟨o, List.mem_cons_of_mem _ ho, hv⟩
    | none =>
      rw [hl] at h
      simp only at h
      obtain ⟨l, hl', h⟩ := obind_some h
      obtain ⟨m, hm', h⟩ := obind_some h
      simp only [Option.some.injEq] at h
      subst h
      intro id rws hx
      obtain ⟨o, ho, hv⟩ := backObsV_views r _ m hm' hm id rws hx
      exact ⟨o, List.mem_cons_of_mem _ ho, hv⟩

/-- What an operation came to along a trace; 'cut': whose views end; 'new': views that begin. -/
structure EV where
  eff : Eff
  cut : List Nat
  new : Views
  as : List Ans
  owed : List Prop
  asked : Asked

def icallV (H : Nat → Option Ob) (vw : Views) (fr : Nat) (byRef : Bool) (f : Nat) (args : List PV) (as : List Ans) : Option EV :=
  (passLV (passV H vw byRef 8) args []).bind fun y =>
  (passObsV H vw false false 16 0 y.1.2.1).bind fun z =>
  let ids := z.1.2.1
  let lent := y.1.2.2 ++ z.1.2.2
  bif disj lent ids then
    match as with
    | [] => none
    | a :: as' =>
      match a.r with
      | .ret v h =>
        bif Nat.ble ids.length h.length && Nat.ble (h.length - ids.length) 64 then
          (back (ren ids fr) 8 v).bind fun v' => (backObsV (ren ids fr) a.vw 0 h).bind fun ws =>
            match lent with
            | [] => some ⟨⟨v', ws.1, ids⟩, ws.1.map (·.1), ws.2.2, as', y.2 ++ (z.2 ++ ws.2.1), [(.call f y.1.1 z.1.1, a.r)]⟩
            | _ :: _ =>
              bif flat 8 v && h.all (fun ob => ob.cells.all (flat 8)) then some ⟨⟨v', ws.1, ids ++ lent⟩, ws.1.map (·.1), ws.2.2, as', y.2 ++ (z.2 ++ ws.2.1), [(.call f y.1.1 z.1.1, a.r)]⟩
              else (shut H lent).bind fun cl => some ⟨⟨v', ws.1 ++ cl, ids ++ lent⟩, ws.1.map (·.1), ws.2.2, as', y.2 ++ (z.2 ++ ws.2.1), [(.call f y.1.1 z.1.1, a.r)]⟩
        else none
      | _ => none
  else none
end Go.Pv
