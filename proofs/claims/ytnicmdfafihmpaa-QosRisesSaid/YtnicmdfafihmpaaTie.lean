/- The printed functions are the given ones. -/
import Derived.Test.YtnicmdfafihmpaaPvS
import Derived.Test.YtnicmdfafihmpaaProg
import Derived.Test.YtnicmdfafihmpaaIr
import Derived.KernelRfl
namespace Go.Proofs.Ytnicmdfafihmpaa
open Go.Pv

theorem c3 : chkFn Try.prog Try.f3 Ir.law51_QosClass = true := by kernel_rfl
theorem c4 : chkFn Try.prog Try.f4 Ir.law51_QosRanks = true := by kernel_rfl
theorem c5 : chkFn Try.prog Try.f5 Ir.law51_QosRelief = true := by kernel_rfl
theorem c6 : chkFn Try.prog Try.f6 Ir.law51_QosRises = true := by kernel_rfl
theorem c7 : chkFn Try.prog Try.f7 Ir.law51_lives = true := by kernel_rfl
theorem c8 : chkFn Try.prog Try.f8 Ir.qos_Class = true := by kernel_rfl
theorem c9 : chkFn Try.prog Try.f9 Ir.ref51_Class = true := by kernel_rfl
theorem c10 : chkFn Try.prog Try.f10 Ir.ref51_Strings = true := by kernel_rfl
theorem c11 : chkFn Try.prog Try.f11 Ir.qos_Rank = true := by kernel_rfl
theorem c12 : chkFn Try.prog Try.f12 Ir.ref51_Rank = true := by kernel_rfl
theorem c13 : chkFn Try.prog Try.f13 Ir.qos_Relieve = true := by kernel_rfl
theorem c14 : chkFn Try.prog Try.f14 Ir.ref51_Relieve = true := by kernel_rfl
theorem c15 : chkFn Try.prog Try.f15 Ir.law51_fits = true := by kernel_rfl
theorem c16 : chkFn Try.prog Try.f16 Ir.law51_index = true := by kernel_rfl
theorem c17 : chkFn Try.prog Try.f17 Ir.meta_KeyOf = true := by kernel_rfl
theorem c18 : chkFn Try.prog Try.f18 Ir.law51_place = true := by kernel_rfl
theorem c19 : chkFn Try.prog Try.f19 Ir.law51_pod = true := by kernel_rfl
theorem c20 : chkFn Try.prog Try.f20 Ir.qos_clamp = true := by kernel_rfl
theorem c21 : chkFn Try.prog Try.f21 Ir.ref51_limit = true := by kernel_rfl
theorem c22 : chkFn Try.prog Try.f22 Ir.qos_ranked = true := by kernel_rfl
theorem c23 : chkFn Try.prog Try.f23 Ir.ref51_order = true := by kernel_rfl
theorem c24 : chkFn Try.prog Try.f24 Ir.ref13_KeyOf = true := by kernel_rfl
theorem c25 : chkFn Try.prog Try.f25 Ir.ref51_usage = true := by kernel_rfl
theorem c26 : chkFn Try.prog Try.f26 Ir.meta_Key = true := by kernel_rfl
theorem c27 : chkFn Try.prog Try.f27 Ir.resource_Requests = true := by kernel_rfl
theorem c28 : chkFn Try.prog Try.f28 Ir.slices_SortStableFunc = true := by kernel_rfl
theorem c29 : chkFn Try.prog Try.f29 Ir.qos_ranked_1 = true := by kernel_rfl
theorem c30 : chkFn Try.prog Try.f30 Ir.cmp_Or = true := by kernel_rfl
theorem c31 : chkFn Try.prog Try.f31 Ir.cmp_Compare = true := by kernel_rfl
theorem c32 : chkFn Try.prog Try.f32 Ir.strings_Compare = true := by kernel_rfl
theorem c33 : chkFn Try.prog Try.f33 Ir.ref51_before = true := by kernel_rfl
theorem c34 : chkFn Try.prog Try.f34 Ir.ref13_Key = true := by kernel_rfl
theorem c35 : chkFn Try.prog Try.f35 Ir.resource_Add = true := by kernel_rfl
theorem c36 : chkFn Try.prog Try.f36 Ir.slices_stableCmpFunc = true := by kernel_rfl
theorem c37 : chkFn Try.prog Try.f37 Ir.cmp_isNaN = true := by kernel_rfl
theorem c39 : chkFn Try.prog Try.f39 Ir.ref02_Requests = true := by kernel_rfl
theorem c40 : chkFn Try.prog Try.f40 Ir.resource_each = true := by kernel_rfl
theorem c41 : chkFn Try.prog Try.f41 Ir.resource_Add_1 = true := by kernel_rfl
theorem c42 : chkFn Try.prog Try.f42 Ir.resource_clamp = true := by kernel_rfl
theorem c43 : chkFn Try.prog Try.f43 Ir.slices_insertionSortCmpFunc = true := by kernel_rfl
theorem c44 : chkFn Try.prog Try.f44 Ir.slices_symMergeCmpFunc = true := by kernel_rfl
theorem c46 : chkFn Try.prog Try.f46 Ir.ref02_Add = true := by kernel_rfl
theorem c47 : chkFn Try.prog Try.f47 Ir.slices_rotateCmpFunc = true := by kernel_rfl
theorem c48 : chkFn Try.prog Try.f48 Ir.ref02_clamp = true := by kernel_rfl
theorem c49 : chkFn Try.prog Try.f49 Ir.slices_swapRangeCmpFunc = true := by kernel_rfl

theorem mixed : Try.prog.follows .mixedOrders = true := by kernel_rfl
theorem own : ownKnob Try.prog.godebug = none := by kernel_rfl
theorem laidOut : laidOutB Try.prog = true := by kernel_rfl
theorem tie (cmp : CmpOK Try.prog 38) : Tie Try.prog (tabG Ir.table) :=
  tie_ir Try.func3 c3 <| tie_ir Try.func4 c4 <| tie_ir Try.func5 c5 <| tie_ir Try.func6 c6 <| tie_ir Try.func7 c7 <| tie_ir Try.func8 c8 <| tie_ir Try.func9 c9 <| tie_ir Try.func10 c10 <| tie_ir Try.func11 c11 <| tie_ir Try.func12 c12 <| tie_ir Try.func13 c13 <| tie_ir Try.func14 c14 <| tie_ir Try.func15 c15 <| tie_ir Try.func16 c16 <| tie_ir Try.func17 c17 <| tie_ir Try.func18 c18 <| tie_ir Try.func19 c19 <| tie_ir Try.func20 c20 <| tie_ir Try.func21 c21 <| tie_ir Try.func22 c22 <| tie_ir Try.func23 c23 <| tie_ir Try.func24 c24 <| tie_ir Try.func25 c25 <| tie_ir Try.func26 c26 <| tie_ir Try.func27 c27 <| tie_ir Try.func28 c28 <| tie_ir Try.func29 c29 <| tie_ir Try.func30 c30 <| tie_ir Try.func31 c31 <| tie_ir Try.func32 c32 <| tie_ir Try.func33 c33 <| tie_ir Try.func34 c34 <| tie_ir Try.func35 c35 <| tie_ir Try.func36 c36 <| tie_ir Try.func37 c37 <| (fun h => tie_any h cmp) <| tie_ir Try.func39 c39 <| tie_ir Try.func40 c40 <| tie_ir Try.func41 c41 <| tie_ir Try.func42 c42 <| tie_ir Try.func43 c43 <| tie_ir Try.func44 c44 <| tie_ir Try.func46 c46 <| tie_ir Try.func47 c47 <| tie_ir Try.func48 c48 <| tie_ir Try.func49 c49 <| tie_nil

end Go.Proofs.Ytnicmdfafihmpaa
