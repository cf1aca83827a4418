/- slices.Clone's contract, proved of every program that holds its text. -/
import Derived.Test.YtedohmdgbilicaaPvV
import Derived.Test.YtedohmdgbilicaaPvS
import Derived.Test.YtedohmdgbilicaaPvX11
import Derived.Lib.SliceRun
namespace Go.Pv
open Go.RowKit

def irA (sz : Nat) : IR := .reg [⟨some 2, none, .mov (.c (.ns sz)), []⟩] false
def irB (sz : Nat) : IR := .cond (.t 4) (.seq (.reg [⟨some 2, none, .mov (.c (.ns sz)), []⟩] false) .ret) .skip
def irC (sz bytes : Nat) (z : List PV) : IR := .seq (.reg [⟨some 5, none, .lit sz 0 z [], []⟩, ⟨some 6, none, .mov (.t 0), []⟩, ⟨some 7, none, .append sz bytes (.t 5) (.t 6), []⟩, ⟨some 2, none, .mov (.t 7), []⟩] false) .ret
def chkNil (P : Program) (ops : Array Oper) : Bool :=
  match ops.toList with
  | [x, y] => chkOper P ops x ⟨some 3, none, .mov (.t 0), []⟩ && optNatEq y.dst (some 4) && chkGuard ops y.guard none &&
      (match y.op with | .binOp .eql T (.tmp 3) (.const (.slice none 0 0)) _ => (match P.underlying T with | some (.slice _) => true | _ => false) | _ => false)
  | _ => false
def chkClone (P : Program) (Fn : Func) (sz bytes : Nat) (z : List PV) : Bool :=
  Nat.beq Fn.ntmps 8 && chkRes P Fn.results.toList [.tmp 2] && !(Fn.name == "runtime.NumGoroutine") &&
  (match Fn.body with
   | some (.seq c0 (.seq (.seq (.region _ ops false) c2) c3)) => chkCode P (irA sz) c0 && chkNil P ops && chkCode P (irB sz) c2 && chkCode P (irC sz bytes z) c3
   | _ => false)
def X0 : Orc := fun _ => none
theorem calls0 (P : Program) : CallsOK P X0 := fun _ _ _ _ _ h => by cases h
theorem loops0 (P : Program) : LoopsOK P X0 := fun _ _ _ _ _ _ _ h => by cases h

section
variable {P : Program} {w0 : World} {D0 : Nat → Option Nat} {H0 : Nat → Option Ob} {F : Nat → Nat → Prop} {n0 m : Nat}
theorem nil_sound {id : Nat} {ops : Array Oper} (hc : chkNil P ops = true) {e : Nat → PV} {H : Nat → Option Ob} {a : Act} {w : World} {D : Nat → Option Nat} {L nx : Nat} (hL : 4 < L) {l : List (List PV)} (he : e 0 = .sl l)
    (A : At w0 D0 H0 F n0 m L e H a w D) (hf : ∀ id, nx ≤ id → D id = none ∧ H id = none) (hmn : m ≤ nx) {Q : Exit → Act → World → Prop}
    (hQ : ∀ (b : Bool) (a' : Act) (w' : World) (D' : Nat → Option Nat), (b = true → l = []) → At w0 D0 H0 F n0 m L (fun t => if t = 4 then .bool b else if t = 3 then .sl l else e t) H a' w' D' → (∀ id, nx + 128 ≤ id → D' id = none ∧ H id = none) → Q .normal a' w') :
    (Code.region id ops false).wp P Q a w := by
  unfold chkNil at hc
  split at hc
  · rename_i x y hxy
    rw [Bool.and_eq_true, Bool.and_eq_true, Bool.and_eq_true] at hc
    obtain ⟨⟨⟨hx, hyd⟩, hyg⟩, hyo⟩ := hc
    have hyd := optNatEq_spec hyd
    have hsz : ops.size = 2 := by rw [← Array.length_toList, hxy]; rfl
    have h0 : ops[0]? = some x := by rw [← Array.getElem?_toList, hxy]; rfl
    have h1 : ops[1]? = some y := by rw [← Array.getElem?_toList, hxy]; rfl
    refine wp_region ?_
    rw [hsz, show List.range 2 = [0, 1] from rfl, wpOps_cons]
    refine oper_sound (X := X0) (calls0 P) A (fr := nx) hmn (fun id h1 _ => hf id h1) h0 hx (f := ⟨.sl l, [], []⟩) (by simp only [istep, IOper.wanted, Option.bind_some, cond_true, iop, opP, Opd.ev, he])
      (e' := fun t => if t = 3 then .sl l else e t) (H' := H) (fun t => ?_) rfl (fun a1 w1 D1 A1 hf1 => ?_)
    · show _ = if some 3 = some t ∧ t < L then PV.sl l else e t
      by_cases c : t = 3
      · subst c
        simp
        omega
      · rw [if_neg c, if_neg (fun h => c (Option.some.inj h.1).symm)]
    · rw [wpOps_cons]
      have hw := wanted_sound A1.env (o := y) (io := ⟨some 4, none, .mov (.t 0), []⟩) hyg (b := true) rfl
      unfold wpOp
      simp only [h1]
      rw [hw, if_pos rfl]
      refine .inl ?_
      split at hyo
      · rename_i T yt hop
        split at hyo
        · rename_i te hT
          have hr : Rep w1 (Mut D1 H F) D1 (a1.tmps.getD 3 undef) (.sl l) := by
            have := A1.env 3
            simpa using this
          generalize hu : a1.tmps.getD 3 undef = u at hr
          cases hr with
          | sl _ B n c sz' _ b o vs hn hcc hm hrs hA hcell hrep =>
            have hev : a1.eval (.tmp 3) = .slice B n c := hu
            have hev2 : a1.eval (.const (.slice none 0 0)) = .slice none 0 0 := rfl
            have hrun : (execOp a1.eval y).run P w1 = .ok (.value (.bool B.isNone)) w1 := by
              have hb := Lib.run_eql_slice_nil (P := P) w1 T te B n c 0 0 hT
              obtain ⟨yd, yop, yty, ypos, yaf, yg⟩ := y
              simp only at hop
              subst hop
              simp [execOp, eqGuard, hev, hev2, hb]
            unfold Oper.wp
            rw [hrun]
            refine hQ B.isNone _ w1 D1 (fun hb => ?_) (A1.step (fr := m) (Step.same A1.sim rfl rfl rfl rfl) (Nat.le_refl _) (p := .bool B.isNone) (.bool _ _) (fun t => ?_)) (fun id hid => ?_)
            · cases B with
              | some _ => cases hb
              | none =>
                cases l with
                | nil => rfl
                | cons r rs =>
                  exfalso
                  have := hA (by rw [← hn]; simp)
                  cases this
            · rw [hyd]
              by_cases c : t = 4
              · subst c
                rw [if_pos rfl, if_pos ⟨rfl, hL⟩]
              · rw [if_neg c, if_neg (show ¬ (some 4 = some t ∧ t < L) from fun h => c (Option.some.inj h.1).symm)]
            · exact ⟨hf1 id (hf id (by omega)).1 (by omega), (hf id (by omega)).2⟩
        · cases hyo
      · cases hyo
  · cases hc
end

theorem clone_ok {P : Program} (hm : P.follows .mixedOrders = true) {f : Nat} {Fn : Func} (hf : P.funcs[f]? = some Fn) {sz bytes : Nat} {z : List PV} (hc : chkClone P Fn sz bytes z = true) : AxOK P f (cloneF sz bytes) := by
  intro args r h' hφ
  unfold cloneF at hφ
  split at hφ
  · rename_i l
    cases hb : (rowsSz l sz && Nat.ble (l.length * bytes) 140737488355328 && l.flatten.all bare) with
    | false => rw [hb] at hφ; cases hφ
    | true =>
      rw [hb] at hφ
      simp only [cond_true, Option.some.injEq, Prod.mk.injEq] at hφ
      obtain ⟨rfl, rfl⟩ := hφ
      rw [Bool.and_eq_true, Bool.and_eq_true] at hb
      obtain ⟨⟨hrs, hby⟩, hpl⟩ := hb
      have hpl : ∀ p ∈ l.flatten, plain p = true := fun p hp => by
        have := List.all_eq_true.1 hpl p hp
        cases p <;> first | rfl | (cases this)
      unfold chkClone at hc
      rw [Bool.and_eq_true, Bool.and_eq_true, Bool.and_eq_true] at hc
      obtain ⟨⟨⟨hnt, hres⟩, hname⟩, hbody⟩ := hc
      have hnt := Nat.eq_of_beq_eq_true hnt
      split at hbody
      · rename_i c0 id ops c2 c3 hB
        rw [Bool.and_eq_true, Bool.and_eq_true, Bool.and_eq_true] at hbody
        obtain ⟨⟨⟨k0, k1⟩, k2⟩, k3⟩ := hbody
        refine ⟨⟨Fn, hf, by rw [hB]; rfl, by simpa using hname⟩, fun w D F vals S hD hv => ?_⟩
        have hvs : vals.size = 1 := by have := hv.1; simpa using this
        have A : At w D (hF []) F w.heap.size 0 ([PV.sl l] ++ nuns 7).length (envF ([PV.sl l] ++ nuns 7)) (look (number 0 [])) { tmps := vals ++ Array.replicate (Fn.ntmps - vals.size) undef, defers := [] } w D := by
          rw [look_number0]
          refine ⟨S, fun t => ?_, by simp [(nuns_spec _ 0).1, hvs, hnt], fun t ht => ?_, Keeps.refl _ w, fun _ _ => rfl, fun _ _ _ h => h, rfl⟩
          · by_cases c : t < 1
            · have ht0 : t = 0 := by omega
              subst ht0
              have hlt : 0 < vals.size := by omega
              have e2 : (vals ++ Array.replicate (Fn.ntmps - vals.size) undef).getD 0 undef = vals[0] := by
                rw [Array.getD_eq_getD_getElem?, Array.getElem?_append_left hlt, Array.getElem?_eq_getElem hlt]
                rfl
              show Rep _ _ _ ((vals ++ Array.replicate (Fn.ntmps - vals.size) undef).getD 0 undef) _
              rw [e2]
              exact hv.2 0 _ _ (by simp [hlt]) rfl
            · have e1 : envF ([PV.sl l] ++ nuns 7) t = .un := by
                have := (nuns_spec 7 (t - 1)).2
                unfold envF at this ⊢
                rw [List.getD_eq_getElem?_getD, List.getElem?_append_right (by simp; omega), ← List.getD_eq_getElem?_getD]
                exact this
              rw [e1]
              exact .un _ _
          · show envF _ t = .un
            unfold envF
            rw [List.getD_eq_getElem?_getD, List.getElem?_eq_none ht]
            rfl
        have hfr : ∀ id, 0 ≤ id → D id = none ∧ look (number 0 ([] : List Ob)) id = none := fun id hid => ⟨hD id hid, rfl⟩
        refine calls_of_wp hf hB (wp_seq (code_sound hm (calls0 P) (loops0 P) (irA sz) c0 k0 ⟨[PV.sl l] ++ nuns 7, number 0 [], 0⟩ .normal ⟨[.sl l, .un, .ns sz, .un, .un, .un, .un, .un], [], 64⟩ rfl _ w D _ A hfr (Nat.le_refl _) fun a1 w1 D1 A1 hf1 hn1 => ?_))
        refine wp_seq (wp_seq (nil_sound k1 (by simp) rfl A1 hf1 hn1 fun b a2 w2 D2 hbl A2 hf2 => ?_))
        have A2' : At w D (hF []) F w.heap.size 0 8 (envF [.sl l, .un, .ns sz, .sl l, .bool b, .un, .un, .un]) (look []) a2 w2 D2 := by
          have e : (fun t => if t = 4 then PV.bool b else if t = 3 then .sl l else envF [.sl l, .un, .ns sz, .un, .un, .un, .un, .un] t) = envF [.sl l, .un, .ns sz, .sl l, .bool b, .un, .un, .un] := by
            funext t
            match t with
            | 0 | 1 | 2 | 3 | 4 | 5 | 6 | 7 => rfl
            | t + 8 => simp [envF]
          rw [← e]
          exact A2
        cases b with
        | true =>
          have hl := hbl rfl
          subst hl
          refine code_sound hm (calls0 P) (loops0 P) (irB sz) c2 k2 ⟨[.sl [], .un, .ns sz, .sl [], .bool true, .un, .un, .un], [], 192⟩ .ret ⟨[.sl [], .un, .ns sz, .sl [], .bool true, .un, .un, .un], [], 256⟩ rfl _ w2 D2 _ A2' hf2 (Nat.zero_le _) fun a3 w3 D3 A3 hf3 hn3 => ?_
          obtain ⟨v, p, h1, D4, e1, e2, e3, e4, e5, e6, e7, e8⟩ := fin_sound (fn := ⟨1, 8, [.tmp 2], true, .skip⟩) A3 hf3 hres (r := .ret (.ms 0 sz 0 0) [⟨sz, 0, true, []⟩]) rfl
          injection e1 with e1 e1'
          subst e1 e1'
          exact ⟨A3.defers, v, e2, v, D4, rfl, e3, A3.keeps, fun id hid => absurd hid (Nat.not_lt_zero _), e5, fun b o hb hmu => A3.sub b o hb (e6 b o hmu), e7, e8⟩
        | false =>
          refine code_sound hm (calls0 P) (loops0 P) (irB sz) c2 k2 ⟨[.sl l, .un, .ns sz, .sl l, .bool false, .un, .un, .un], [], 192⟩ .normal ⟨[.sl l, .un, .ns sz, .sl l, .bool false, .un, .un, .un], [], 192⟩ rfl _ w2 D2 _ A2' hf2 (Nat.zero_le _) fun a3 w3 D3 A3 hf3 hn3 => ?_
          refine code_sound hm (calls0 P) (loops0 P) (irC sz bytes z) c3 k3 ⟨[.sl l, .un, .ns sz, .sl l, .bool false, .un, .un, .un], [], 192⟩ .ret ⟨[.sl l, .un, .ms (192 + 128) sz 0 (0 + l.length), .sl l, .bool false, .ms 192 sz 0 0, .sl l, .ms (192 + 128) sz 0 (0 + l.length)], [(192 + 128, ⟨sz, 0, true, [] ++ l.flatten⟩)], 448⟩ ?_ _ w3 D3 _ A3 hf3 (Nat.zero_le _) fun a4 w4 D4 A4 hf4 hn4 => ?_
          · have h1 : Nat.ble ((0 + l.length) * bytes) 140737488355328 = true := by rw [Nat.zero_add]; exact hby
            unfold irC
            simp only [icode, ireg, iregion, istep, IOper.wanted, Option.bind_some, cond_true, iop, opA, fillP, rep, evLits, opP, Opd.ev, opAppend, apC, source, look, hput, hput.repl, hput.drop, put, envF, List.set, List.getD_cons_zero, List.getD_cons_succ, hrs, Nat.beq_refl, Nat.zero_mul, List.length_nil, Bool.and_true, Bool.true_and, Bool.and_self, h1, Bool.not_false, Bool.true_or, List.length_cons]
          · obtain ⟨v, p, h1, D5, e1, e2, e3, e4, e5, e6, e7, e8⟩ := fin_sound (fn := ⟨1, 8, [.tmp 2], true, .skip⟩) A4 hf4 hres (r := .ret (.ms 0 sz 0 l.length) [⟨sz, 0, true, l.flatten⟩]) (by
              have hp := passL_plain (H := look ([(192 + 128, (⟨sz, 0, true, l.flatten⟩ : Ob))] ++ [])) (byRef := false) (n := 7) l.flatten [192 + 128] hpl
              have ho : passObs (look ([(192 + 128, (⟨sz, 0, true, l.flatten⟩ : Ob))] ++ [])) false true (31 + 1) 0 [192 + 128] = some ([⟨sz, 0, true, l.flatten⟩], [192 + 128], []) := by
                rw [passObs]
                show (some (⟨sz, 0, true, l.flatten⟩ : Ob)).bind _ = _
                rw [Option.bind_some]
                show (passL (pass _ false 8) l.flatten [192 + 128]).bind _ = _
                rw [hp, Option.bind_some]
                rfl
              show (passObs (look ([(192 + 128, (⟨sz, 0, true, l.flatten⟩ : Ob))] ++ [])) false true (31 + 1) 0 [192 + 128]).bind _ = _
              rw [ho, Option.bind_some]
              show some (Rs.ret (.ms 0 sz 0 (0 + l.length)) [⟨sz, 0, true, l.flatten⟩]) = _
              rw [Nat.zero_add])
            injection e1 with e1 e1'
            subst e1 e1'
            exact ⟨A4.defers, v, e2, v, D5, rfl, e3, A4.keeps, fun id hid => absurd hid (Nat.not_lt_zero _), e5, fun b o hb hmu => A4.sub b o hb (e6 b o hmu), e7, e8⟩
      · cases hbody
  · cases hφ
end Go.Pv
