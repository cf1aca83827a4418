/- The printed functions are the given ones. -/
import Derived.Test.YtgdipcoknfhobaaPvX12
import Derived.Test.YtgdipcoknfhobaaProg
import Derived.Test.YtgdipcoknfhobaaIr
import Derived.KernelRfl
namespace Go.Proofs.Ytgdipcoknfhobaa
open Go.Pv

theorem c3 : chkFn Try.prog Try.f3 Ir.law34_ProbeBegins = true := by kernel_rfl
theorem c4 : chkFn Try.prog Try.f4 Ir.law34_ProbeSteps = true := by kernel_rfl
theorem c5 : chkFn Try.prog Try.f5 Ir.law34_ProbeThresholds = true := by kernel_rfl
theorem c6 : chkFn Try.prog Try.f6 Ir.law34_ProbeOne = true := by kernel_rfl
theorem c7 : chkFn Try.prog Try.f7 Ir.law29_LeaseTries = true := by kernel_rfl
theorem c8 : chkFn Try.prog Try.f8 Ir.law29_LeaseExclusive = true := by kernel_rfl
theorem c9 : chkFn Try.prog Try.f9 Ir.law29_LeaseKeeps = true := by kernel_rfl
theorem c10 : chkFn Try.prog Try.f10 Ir.law29_LeaseSwitches = true := by kernel_rfl
theorem c11 : chkFn Try.prog Try.f11 Ir.probe_Begin = true := by kernel_rfl
theorem c12 : chkFn Try.prog Try.f12 Ir.ref34_Begin = true := by kernel_rfl
theorem c13 : chkFn Try.prog Try.f13 Ir.probe_Due = true := by kernel_rfl
theorem c14 : chkFn Try.prog Try.f14 Ir.ref34_Due = true := by kernel_rfl
theorem c15 : chkFn Try.prog Try.f15 Ir.law34_awake = true := by kernel_rfl
theorem c16 : chkFn Try.prog Try.f16 Ir.probe_Step = true := by kernel_rfl
theorem c17 : chkFn Try.prog Try.f17 Ir.ref34_Step = true := by kernel_rfl
theorem c18 : chkFn Try.prog Try.f18 Ir.lease_Try = true := by kernel_rfl
theorem c19 : chkFn Try.prog Try.f19 Ir.ref29_Try = true := by kernel_rfl
theorem c20 : chkFn Try.prog Try.f20 Ir.law29_lives = true := by kernel_rfl
theorem c21 : chkFn Try.prog Try.f21 Ir.lease_Valid = true := by kernel_rfl
theorem c22 : chkFn Try.prog Try.f22 Ir.ref29_Valid = true := by kernel_rfl
theorem c23 : chkFn Try.prog Try.f23 Ir.lease_Holds = true := by kernel_rfl
theorem c24 : chkFn Try.prog Try.f24 Ir.ref29_Holds = true := by kernel_rfl
theorem c25 : chkFn Try.prog Try.f25 Ir.lease_Release = true := by kernel_rfl
theorem c26 : chkFn Try.prog Try.f26 Ir.ref29_Release = true := by kernel_rfl
theorem c27 : chkFn Try.prog Try.f27 Ir.probe_after = true := by kernel_rfl
theorem c28 : chkFn Try.prog Try.f28 Ir.probe_clamp = true := by kernel_rfl
theorem c29 : chkFn Try.prog Try.f29 Ir.ref34_time = true := by kernel_rfl
theorem c30 : chkFn Try.prog Try.f30 Ir.probe_Step_1 = true := by kernel_rfl
theorem c31 : chkFn Try.prog Try.f31 Ir.ref01_Clamp = true := by kernel_rfl
theorem c32 : chkFn Try.prog Try.f32 Ir.lease_within = true := by kernel_rfl

theorem mixed : Try.prog.follows .mixedOrders = true := by kernel_rfl
theorem own : ownKnob Try.prog.godebug = none := by kernel_rfl
theorem laidOut : laidOutB Try.prog = true := by kernel_rfl
theorem tie : Tie Try.prog (tabG Ir.table) :=
  tie_ir Try.func3 c3 <| tie_ir Try.func4 c4 <| tie_ir Try.func5 c5 <| tie_ir Try.func6 c6 <| tie_ir Try.func7 c7 <| tie_ir Try.func8 c8 <| tie_ir Try.func9 c9 <| tie_ir Try.func10 c10 <| tie_ir Try.func11 c11 <| tie_ir Try.func12 c12 <| tie_ir Try.func13 c13 <| tie_ir Try.func14 c14 <| tie_ir Try.func15 c15 <| tie_ir Try.func16 c16 <| tie_ir Try.func17 c17 <| tie_ir Try.func18 c18 <| tie_ir Try.func19 c19 <| tie_ir Try.func20 c20 <| tie_ir Try.func21 c21 <| tie_ir Try.func22 c22 <| tie_ir Try.func23 c23 <| tie_ir Try.func24 c24 <| tie_ir Try.func25 c25 <| tie_ir Try.func26 c26 <| tie_ir Try.func27 c27 <| tie_ir Try.func28 c28 <| tie_ir Try.func29 c29 <| tie_ir Try.func30 c30 <| tie_ir Try.func31 c31 <| tie_ir Try.func32 c32 <| tie_nil

end Go.Proofs.Ytgdipcoknfhobaa
