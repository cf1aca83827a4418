/- What the functions of the chapter on probes compute, and that the four laws hold of it. -/
import Derived.Test.YtgdipcoknfhobaaPvU
import Derived.Test.YtgdipcoknfhobaaPvS
import Derived.Test.YtgdipcoknfhobaaIr
import Derived.KernelRfl
import Derived.OpenShut
namespace Go.Proofs.Ytgdipcoknfhobaa
open Go.Pv

abbrev G : Nat → Option Fun := tabG Ir.table

abbrev MT : Int := 1000000000000
abbrev MN : Int := 1000000000000000
def mx (x y : Int) : Int := if y > x then y else x
def mn (x y : Int) : Int := if y < x then y else x
def clampS (n lo hi : Int) : Int := mn (mx n lo) hi
def w64 (n : Int) : Int := IntKind.i64.wrap n

def g28 : List PV → List Ob → Option Rs
  | [.int .i64 n, .int .i64 lo, .int .i64 hi], [] => some (.ret (.int .i64 (clampS n lo hi)) [])
  | _, _ => none
theorem s28 : ∀ a h r, g28 a h = some r → Tells G (.call 28 a h) r := by
  intro a h r hg
  unfold g28 at hg
  split at hg
  · injection hg with hg
    subst hg
    exact tells_phi sure_nil (by kernel_rfl)
  · cases hg
theorem s31 : ∀ a h r, g28 a h = some r → Tells G (.call 31 a h) r := by
  intro a h r hg
  unfold g28 at hg
  split at hg
  · injection hg with hg
    subst hg
    exact tells_phi sure_nil (by kernel_rfl)
  · cases hg

def t0 : Tab := [(28, g28), (31, g28)]
theorem y0 : Sure G (says t0) := sure_cons (sure_cons sure_nil s31) s28

def afterS (t d : Int) : Int := mn (w64 (clampS t 0 MT + d)) MT
def g27 : List PV → List Ob → Option Rs
  | [.int .i64 t, .int .i64 d], [] => some (.ret (.int .i64 (afterS t d)) [])
  | _, _ => none
theorem s27 : ∀ a h r, g27 a h = some r → Tells G (.call 27 a h) r := by
  intro a h r hg
  unfold g27 at hg
  split at hg
  · injection hg with hg
    subst hg
    exact tells_phi y0 (by kernel_rfl)
  · cases hg
def g29 : List PV → List Ob → Option Rs
  | [.int .i64 n], [] => some (.ret (.int .i64 (clampS n 0 MT)) [])
  | _, _ => none
theorem s29 : ∀ a h r, g29 a h = some r → Tells G (.call 29 a h) r := by
  intro a h r hg
  unfold g29 at hg
  split at hg
  · injection hg with hg
    subst hg
    exact tells_phi y0 (by kernel_rfl)
  · cases hg
def moreS (n : Int) : Int := mn (w64 (clampS n 0 MN + 1)) MN
def g30 : List PV → List Ob → Option Rs
  | [.int .i64 n], [] => some (.ret (.int .i64 (moreS n)) [])
  | _, _ => none
theorem s30 : ∀ a h r, g30 a h = some r → Tells G (.call 30 a h) r := by
  intro a h r hg
  unfold g30 at hg
  split at hg
  · injection hg with hg
    subst hg
    exact tells_phi y0 (by kernel_rfl)
  · cases hg
def t1 : Tab := (27, g27) :: (29, g29) :: (30, g30) :: t0
theorem y1 : Sure G (says t1) := sure_cons (sure_cons (sure_cons y0 s30) s29) s27

def state (ps fs : Int) (good : Bool) (nx : Int) : PV := .agg [.int .i64 ps, .int .i64 fs, .bool good, .int .i64 nx]
def g11 : List PV → List Ob → Option Rs
  | [.agg [.int .i64 d, .int .i64 _, .int .i64 _, .int .i64 _], .int .i64 t], [] => some (.ret (state 0 0 false (afterS t (clampS d 0 MT))) [])
  | _, _ => none
theorem s11 : ∀ a h r, g11 a h = some r → Tells G (.call 11 a h) r := by
  intro a h r hg
  unfold g11 at hg
  split at hg
  · injection hg with hg
    subst hg
    exact tells_phi y1 (by kernel_rfl)
  · cases hg
def g12 : List PV → List Ob → Option Rs
  | [.agg [.int .i64 d, .int .i64 _, .int .i64 _, .int .i64 _], .int .i64 t], [] => some (.ret (state 0 0 false (clampS (w64 (clampS t 0 MT + clampS d 0 MT)) 0 MT)) [])
  | _, _ => none
theorem s12 : ∀ a h r, g12 a h = some r → Tells G (.call 12 a h) r := by
  intro a h r hg
  unfold g12 at hg
  split at hg
  · injection hg with hg
    subst hg
    exact tells_phi y1 (by kernel_rfl)
  · cases hg
def dueS (nx t : Int) : Bool := decide (t ≥ nx)
def g13 : List PV → List Ob → Option Rs
  | [.agg [.int .i64 _, .int .i64 _, .bool _, .int .i64 nx], .int .i64 t], [] => some (.ret (.bool (dueS nx t)) [])
  | _, _ => none
theorem s13 : ∀ a h r, g13 a h = some r → Tells G (.call 13 a h) r := by
  intro a h r hg
  unfold g13 at hg
  split at hg
  · injection hg with hg
    subst hg
    exact tells_phi y1 (by kernel_rfl)
  · cases hg
theorem s14 : ∀ a h r, g13 a h = some r → Tells G (.call 14 a h) r := by
  intro a h r hg
  unfold g13 at hg
  split at hg
  · injection hg with hg
    subst hg
    exact tells_phi y1 (by kernel_rfl)
  · cases hg
def g15 : List PV → List Ob → Option Rs
  | [], [] => some (.ret (.bool true) [])
  | _, _ => none
theorem s15 : ∀ a h r, g15 a h = some r → Tells G (.call 15 a h) r := by
  intro a h r hg
  unfold g15 at hg
  split at hg
  · injection hg with hg
    subst hg
    exact ⟨20, by kernel_rfl⟩
  · cases hg

/-- the state behind a result -/
def stepS (pe su fa ps fs : Int) (good pass : Bool) (now : Int) : PV :=
  match pass with
  | true => state (moreS ps) 0 (good || decide (moreS ps ≥ mx su 1)) (afterS now (clampS pe 1 MT))
  | false => state 0 (moreS fs) (good && decide (moreS fs < mx fa 1)) (afterS now (clampS pe 1 MT))
def g16 : List PV → List Ob → Option Rs
  | [.agg [.int .i64 _, .int .i64 pe, .int .i64 su, .int .i64 fa], .agg [.int .i64 ps, .int .i64 fs, .bool good, .int .i64 _], .bool pass, .int .i64 now], [] => some (.ret (stepS pe su fa ps fs good pass now) [])
  | _, _ => none
theorem s16 : ∀ a h r, g16 a h = some r → Tells G (.call 16 a h) r := by
  intro a h r hg
  unfold g16 at hg
  split at hg
  · rename_i d pe su fa ps fs good nx pass now
    injection hg with hg
    subst hg
    cases pass <;> cases good
    · exact tells_phi y1 (by kernel_rfl)
    · exact tells_phi y1 (by kernel_rfl)
    · exact tells_phi y1 (by kernel_rfl)
    · exact tells_phi y1 (by kernel_rfl)
  · cases hg
def nextR (pe now : Int) : Int := clampS (w64 (clampS now 0 MT + mx (clampS pe 0 MT) 1)) 0 MT
def stepR (pe su fa ps fs : Int) (good pass : Bool) (now : Int) : PV :=
  match pass with
  | true => state (moreS ps) 0 (bif decide (moreS ps ≥ mx su 1) then true else good) (nextR pe now)
  | false => state 0 (moreS fs) (bif decide (moreS fs ≥ mx fa 1) then false else good) (nextR pe now)
def yes : Eff := ⟨.bool true, [], []⟩
def no : Eff := ⟨.bool false, [], []⟩
def bE (b : Bool) : Eff := ⟨.bool b, [], []⟩
/-! ### the plain laws -/
theorem wrap_id {n : Int} (h1 : -9223372036854775808 ≤ n) (h2 : n ≤ 9223372036854775807) : w64 n = n := by
  unfold w64 IntKind.wrap
  simp [IntKind.bits, IntKind.signed]
  omega
theorem mx_cases (x y : Int) : (mx x y = x ∧ y ≤ x) ∨ (mx x y = y ∧ x ≤ y) := by
  unfold mx
  split
  · exact .inr ⟨rfl, by omega⟩
  · exact .inl ⟨rfl, by omega⟩
theorem mn_cases (x y : Int) : (mn x y = x ∧ x ≤ y) ∨ (mn x y = y ∧ y ≤ x) := by
  unfold mn
  split
  · exact .inr ⟨rfl, by omega⟩
  · exact .inl ⟨rfl, by omega⟩
theorem clamp_bounds (n : Int) {lo hi : Int} (h : lo ≤ hi) : lo ≤ clampS n lo hi ∧ clampS n lo hi ≤ hi := by
  unfold clampS
  have h1 := mx_cases n lo
  have h2 := mn_cases (mx n lo) hi
  omega
theorem clamp_id {n lo hi : Int} (h1 : lo ≤ n) (h2 : n ≤ hi) : clampS n lo hi = n := by
  unfold clampS
  have h1 := mx_cases n lo
  have h2 := mn_cases (mx n lo) hi
  omega
theorem hMT : MT = 1000000000000 := rfl
theorem hMN : MN = 1000000000000000 := rfl
theorem clamp_one (n : Int) : mx (clampS n 0 MT) 1 = clampS n 1 MT := by
  unfold clampS
  have := hMT
  have h1 := mx_cases n 0
  have h2 := mn_cases (mx n 0) MT
  have h3 := mx_cases (mn (mx n 0) MT) 1
  have h4 := mx_cases n 1
  have h5 := mn_cases (mx n 1) MT
  omega
theorem after_same (t : Int) {d : Int} (h0 : 0 ≤ d) (h1 : d ≤ MT) : afterS t d = clampS (w64 (clampS t 0 MT + d)) 0 MT := by
  have hb := clamp_bounds t (show (0 : Int) ≤ MT by rw [hMT]; omega)
  have hm := hMT
  unfold afterS
  rw [wrap_id (by omega) (by omega)]
  have hx : 0 ≤ clampS t 0 MT + d := by omega
  generalize clampS t 0 MT + d = x at hx ⊢
  have h1 := mn_cases x MT
  unfold clampS
  have h2 := mx_cases x 0
  have h3 := mn_cases (mx x 0) MT
  omega
theorem next_same (pe now : Int) : afterS now (clampS pe 1 MT) = nextR pe now := by
  have hb := clamp_bounds pe (show (1 : Int) ≤ MT by rw [hMT]; omega)
  unfold nextR
  rw [clamp_one, after_same now (by omega) hb.2]
theorem begin_same (d t : Int) : afterS t (clampS d 0 MT) = clampS (w64 (clampS t 0 MT + clampS d 0 MT)) 0 MT := by
  have hb := clamp_bounds d (show (0 : Int) ≤ MT by rw [hMT]; omega)
  exact after_same t hb.1 hb.2
theorem step_same (pe su fa ps fs : Int) (good pass : Bool) (now : Int) : stepS pe su fa ps fs good pass now = stepR pe su fa ps fs good pass now := by
  unfold stepS stepR
  rw [next_same]
  cases pass <;> simp only
  · congr 1
    cases good <;> by_cases h : moreS fs ≥ mx fa 1
    · simp [h]
    · simp [h]
    · simp [h]
      first | done | omega
    · simp [h]
      first | done | omega
  · congr 1
    cases good <;> by_cases h : moreS ps ≥ mx su 1 <;> simp [h]

theorem s17 : ∀ a h r, g16 a h = some r → Tells G (.call 17 a h) r := by
  intro a h r hg
  unfold g16 at hg
  split at hg
  · rename_i d pe su fa ps fs good nx pass now
    injection hg with hg
    subst hg
    rw [step_same]
    cases pass
    · unfold stepR
      cases hb : decide (moreS fs ≥ mx fa 1)
      · exact tells_T y1 (fn := Ir.ref34_Step) rfl (hs := [(29, no)]) (ow := [(some (bE (decide (moreS fs ≥ mx fa 1))), no)]) (Paid.cons (by rw [hb]; rfl) Paid.nil) (by kernel_rfl)
      · exact tells_T y1 (fn := Ir.ref34_Step) rfl (hs := [(29, yes)]) (ow := [(some (bE (decide (moreS fs ≥ mx fa 1))), yes)]) (Paid.cons (by rw [hb]; rfl) Paid.nil) (by kernel_rfl)
    · unfold stepR
      cases hb : decide (moreS ps ≥ mx su 1)
      · exact tells_T y1 (fn := Ir.ref34_Step) rfl (hs := [(29, no)]) (ow := [(some (bE (decide (moreS ps ≥ mx su 1))), no)]) (Paid.cons (by rw [hb]; rfl) Paid.nil) (by kernel_rfl)
      · exact tells_T y1 (fn := Ir.ref34_Step) rfl (hs := [(29, yes)]) (ow := [(some (bE (decide (moreS ps ≥ mx su 1))), yes)]) (Paid.cons (by rw [hb]; rfl) Paid.nil) (by kernel_rfl)
  · cases hg
def t2 : Tab := (11, g11) :: (12, g12) :: (13, g13) :: (14, g13) :: (15, g15) :: (16, g16) :: (17, g16) :: t1
theorem y2 : Sure G (says t2) := sure_cons (sure_cons (sure_cons (sure_cons (sure_cons (sure_cons (sure_cons y1 s17) s16) s15) s14) s13) s12) s11

/-! ### arguments -/
abbrev Γ : Nat → Option Ty := fun _ => none
abbrev tI : Ty := .int .i64
abbrev tProbe : Ty := .st [tI, tI, tI, tI]
abbrev tState : Ty := .st [tI, tI, .bool, tI]
theorem arg_int {k : IntKind} {p : PV} (h : Arg Γ (.int k) p) : ∃ n, p = .int k n ∧ (Lit.int k n).wf = true := by
  obtain ⟨c, ho, hc⟩ := h
  cases ho with
  | int _ n hw =>
    simp only [Ty.isSt, cond_false, List.cons.injEq, and_true] at hc
    exact ⟨n, hc.symm, hw⟩
theorem arg_bool {p : PV} (h : Arg Γ .bool p) : ∃ b, p = .bool b := by
  obtain ⟨c, ho, hc⟩ := h
  cases ho with
  | bool b =>
    simp only [Ty.isSt, cond_false, List.cons.injEq, and_true] at hc
    exact ⟨b, hc.symm⟩
theorem arg_st {fs : List Ty} {p : PV} (h : Arg Γ (.st fs) p) : ∃ c, p = .agg c ∧ OfL Γ fs c := by
  obtain ⟨c, ho, hc⟩ := h
  cases ho with
  | st _ _ h =>
    simp only [Ty.isSt, cond_true] at hc
    exact ⟨c, hc, h⟩
theorem ofL_int {k : IntKind} {fs : List Ty} {c : List PV} (h : OfL Γ (.int k :: fs) c) : ∃ n r, c = .int k n :: r ∧ (Lit.int k n).wf = true ∧ OfL Γ fs r := by
  cases h with
  | cons _ _ a b h hr =>
    cases h with
    | int _ n hw => exact ⟨n, b, rfl, hw, hr⟩
theorem ofL_bool {fs : List Ty} {c : List PV} (h : OfL Γ (.bool :: fs) c) : ∃ x r, c = .bool x :: r ∧ OfL Γ fs r := by
  cases h with
  | cons _ _ a b h hr =>
    cases h with
    | bool x => exact ⟨x, b, rfl, hr⟩
theorem ofL_nil {c : List PV} (h : OfL Γ [] c) : c = [] := by cases h; rfl
theorem arg_probe {p : PV} (h : Arg Γ tProbe p) : ∃ d pe su fa, p = .agg [.int .i64 d, .int .i64 pe, .int .i64 su, .int .i64 fa] := by
  obtain ⟨c, rfl, k1⟩ := arg_st h
  obtain ⟨d, r, rfl, _, k2⟩ := ofL_int k1
  obtain ⟨pe, r, rfl, _, k3⟩ := ofL_int k2
  obtain ⟨su, r, rfl, _, k4⟩ := ofL_int k3
  obtain ⟨fa, r, rfl, _, k5⟩ := ofL_int k4
  obtain rfl := ofL_nil k5
  exact ⟨_, _, _, _, rfl⟩
theorem arg_state {p : PV} (h : Arg Γ tState p) : ∃ ps fs g nx, p = state ps fs g nx := by
  obtain ⟨c, rfl, k1⟩ := arg_st h
  obtain ⟨d, r, rfl, _, k2⟩ := ofL_int k1
  obtain ⟨pe, r, rfl, _, k3⟩ := ofL_int k2
  obtain ⟨su, r, rfl, k4⟩ := ofL_bool k3
  obtain ⟨fa, r, rfl, _, k5⟩ := ofL_int k4
  obtain rfl := ofL_nil k5
  exact ⟨_, _, _, _, rfl⟩

/-- what '==' asks of two states -/
def sameS (ps fs : Int) (g : Bool) (nx ps' fs' : Int) (g' : Bool) (nx' : Int) : Bool := (ps == ps' && (fs == fs' && ((g == g') && (nx == nx' && true))))
theorem sameS_self (ps fs : Int) (g : Bool) (nx : Int) : sameS ps fs g nx ps fs g nx = true := by simp [sameS]

def tysBegins : List Ty := [tProbe, tState, tI]
theorem pureBegins (qs : List PV) (h : Args Γ tysBegins qs) : ∃ n, runs G n (.call 3 qs []) = some (.ret (.bool true) []) := by
  match qs, h with
  | [a, b, c], h =>
    obtain ⟨ha, hb, hc, _⟩ := h
    obtain ⟨d, pe, su, fa, rfl⟩ := arg_probe ha
    obtain ⟨ps, fs, g, nx, rfl⟩ := arg_state hb
    obtain ⟨t, rfl, _⟩ := arg_int hc
    exact tells_T y2 (fn := Ir.law34_ProbeBegins) rfl (hs := [(9, yes), (7, yes)])
      (ow := [(some (bE (sameS 0 0 false (afterS t (clampS d 0 MT)) 0 0 false (clampS (w64 (clampS t 0 MT + clampS d 0 MT)) 0 MT))), yes), (some (bE (dueS nx t == dueS nx t)), yes)])
      (Paid.cons (by rw [begin_same, sameS_self]; rfl) (Paid.cons (by simp [bE, yes]) Paid.nil)) (by kernel_rfl)

def tysSteps : List Ty := [tProbe, tState, .bool, tI]
theorem pureSteps (qs : List PV) (h : Args Γ tysSteps qs) : ∃ n, runs G n (.call 4 qs []) = some (.ret (.bool true) []) := by
  match qs, h with
  | [a, b, c, e], h =>
    obtain ⟨ha, hb, hc, he, _⟩ := h
    obtain ⟨d, pe, su, fa, rfl⟩ := arg_probe ha
    obtain ⟨ps, fs, g, nx, rfl⟩ := arg_state hb
    obtain ⟨pass, rfl⟩ := arg_bool hc
    obtain ⟨now, rfl, _⟩ := arg_int he
    cases pass
    · exact tells_T y2 (fn := Ir.law34_ProbeSteps) rfl (hs := [(13, yes)])
        (ow := [(some (bE (sameS 0 (moreS fs) (g && decide (moreS fs < mx fa 1)) (afterS now (clampS pe 1 MT)) 0 (moreS fs) (g && decide (moreS fs < mx fa 1)) (afterS now (clampS pe 1 MT)))), yes)])
        (Paid.cons (by rw [sameS_self]; rfl) Paid.nil) (by kernel_rfl)
    · exact tells_T y2 (fn := Ir.law34_ProbeSteps) rfl (hs := [(13, yes)])
        (ow := [(some (bE (sameS (moreS ps) 0 (g || decide (moreS ps ≥ mx su 1)) (afterS now (clampS pe 1 MT)) (moreS ps) 0 (g || decide (moreS ps ≥ mx su 1)) (afterS now (clampS pe 1 MT)))), yes)])
        (Paid.cons (by rw [sameS_self]; rfl) Paid.nil) (by kernel_rfl)

theorem more_pos (n : Int) : decide (moreS n > 0) = true := by
  have hb := clamp_bounds n (show (0 : Int) ≤ MN by rw [hMN]; omega)
  have hm := hMN
  unfold moreS
  rw [wrap_id (by omega) (by omega)]
  have := mn_cases (clampS n 0 MN + 1) MN
  simp
  omega
theorem due_then (t pe : Int) (h0 : 0 ≤ t) (h1 : t ≤ 65535) (h2 : clampS pe 1 MT ≤ 1000000) : dueS (afterS t (clampS pe 1 MT)) (w64 (t + clampS pe 1 MT)) = true ∧ dueS (afterS t (clampS pe 1 MT)) (w64 (w64 (t + clampS pe 1 MT) - 1)) = false := by
  have hb := clamp_bounds pe (show (1 : Int) ≤ MT by rw [hMT]; omega)
  have hm := hMT
  unfold afterS
  rw [clamp_id h0 (by omega), wrap_id (by omega) (by omega), wrap_id (by omega) (by omega)]
  have := mn_cases (t + clampS pe 1 MT) MT
  unfold dueS
  constructor
  · simp; omega
  · simp; omega
def tysOne : List Ty := [tProbe, tState, .bool, .int .u16]
theorem pureOne (qs : List PV) (h : Args Γ tysOne qs) : ∃ n, runs G n (.call 6 qs []) = some (.ret (.bool true) []) := by
  match qs, h with
  | [a, b, c, e], h =>
    obtain ⟨ha, hb, hc, he, _⟩ := h
    obtain ⟨d, pe, su, fa, rfl⟩ := arg_probe ha
    obtain ⟨ps, fs, g, nx, rfl⟩ := arg_state hb
    obtain ⟨pass, rfl⟩ := arg_bool hc
    obtain ⟨now, rfl, hwf⟩ := arg_int he
    have hn : 0 ≤ now ∧ now ≤ 65535 := by
      simp [Lit.wf, IntKind.min, IntKind.max, IntKind.signed, IntKind.bits] at hwf
      omega
    have hw : w64 now = now := wrap_id (by omega) (by omega)
    have key := fun h => due_then now pe hn.1 hn.2 h
    cases hb : decide (clampS pe 1 MT > 1000000)
    · have hb' : clampS pe 1 MT ≤ 1000000 := by simpa using hb
      obtain ⟨k1, k2⟩ := key hb'
      cases pass
      · exact tells_T y2 (fn := Ir.law34_ProbeOne) rfl (hs := [(26, yes), (4, no), (5, yes), (6, no)])
          (ow := [(some (bE (decide (moreS fs > 0))), yes), (some (bE (decide (clampS pe 1 MT > 1000000))), no), (some (bE (dueS (afterS (w64 now) (clampS pe 1 MT)) (w64 (w64 now + clampS pe 1 MT)))), yes), (some (bE (dueS (afterS (w64 now) (clampS pe 1 MT)) (w64 (w64 (w64 now + clampS pe 1 MT) - 1)))), no)])
          (Paid.cons (by rw [more_pos]; rfl) (Paid.cons (by rw [hb]; rfl) (Paid.cons (by rw [hw, k1]; rfl) (Paid.cons (by rw [hw, k2]; rfl) Paid.nil)))) (by kernel_rfl)
      · exact tells_T y2 (fn := Ir.law34_ProbeOne) rfl (hs := [(20, yes), (10, no), (5, yes), (6, no)])
          (ow := [(some (bE (decide (moreS ps > 0))), yes), (some (bE (decide (clampS pe 1 MT > 1000000))), no), (some (bE (dueS (afterS (w64 now) (clampS pe 1 MT)) (w64 (w64 now + clampS pe 1 MT)))), yes), (some (bE (dueS (afterS (w64 now) (clampS pe 1 MT)) (w64 (w64 (w64 now + clampS pe 1 MT) - 1)))), no)])
          (Paid.cons (by rw [more_pos]; rfl) (Paid.cons (by rw [hb]; rfl) (Paid.cons (by rw [hw, k1]; rfl) (Paid.cons (by rw [hw, k2]; rfl) Paid.nil)))) (by kernel_rfl)
    · cases pass
      · exact tells_T y2 (fn := Ir.law34_ProbeOne) rfl (hs := [(26, yes), (4, yes)])
          (ow := [(some (bE (decide (moreS fs > 0))), yes), (some (bE (decide (clampS pe 1 MT > 1000000))), yes)])
          (Paid.cons (by rw [more_pos]; rfl) (Paid.cons (by rw [hb]; rfl) Paid.nil)) (by kernel_rfl)
      · exact tells_T y2 (fn := Ir.law34_ProbeOne) rfl (hs := [(20, yes), (10, yes)])
          (ow := [(some (bE (decide (moreS ps > 0))), yes), (some (bE (decide (clampS pe 1 MT > 1000000))), yes)])
          (Paid.cons (by rw [more_pos]; rfl) (Paid.cons (by rw [hb]; rfl) Paid.nil)) (by kernel_rfl)
end Go.Proofs.Ytgdipcoknfhobaa
