/- The printed functions are the given ones. -/
import Derived.Test.YtedohmdgbilicaaPvX12
import Derived.Test.YtedohmdgbilicaaProg
import Derived.Test.YtedohmdgbilicaaIr
import Derived.KernelRfl
namespace Go.Proofs.Ytedohmdgbilicaa
open Go.Pv

theorem c3 : chkFn Try.prog Try.f3 Ir.law04_ValueValid = true := by kernel_rfl
theorem c4 : chkFn Try.prog Try.f4 Ir.law04_ValueCompares = true := by kernel_rfl
theorem c5 : chkFn Try.prog Try.f5 Ir.law04_ValueOrder = true := by kernel_rfl
theorem c6 : chkFn Try.prog Try.f6 Ir.law04_ValueBuilds = true := by kernel_rfl
theorem c7 : chkFn Try.prog Try.f7 Ir.law04_ValueFields = true := by kernel_rfl
theorem c8 : chkFn Try.prog Try.f8 Ir.law04_ValueMaps = true := by kernel_rfl
theorem c9 : chkFn Try.prog Try.f9 Ir.law04_small = true := by kernel_rfl
theorem c10 : chkFn Try.prog Try.f10 Ir.law04_awake = true := by kernel_rfl
theorem c11 : chkFn Try.prog Try.f11 Ir.value_Valid = true := by kernel_rfl
theorem c12 : chkFn Try.prog Try.f12 Ir.ref04_Valid = true := by kernel_rfl
theorem c13 : chkFn Try.prog Try.f13 Ir.value_Size = true := by kernel_rfl
theorem c14 : chkFn Try.prog Try.f14 Ir.ref04_Size = true := by kernel_rfl
theorem c15 : chkFn Try.prog Try.f15 Ir.value_Depth = true := by kernel_rfl
theorem c16 : chkFn Try.prog Try.f16 Ir.ref04_Depth = true := by kernel_rfl
theorem c17 : chkFn Try.prog Try.f17 Ir.value_Compare = true := by kernel_rfl
theorem c18 : chkFn Try.prog Try.f18 Ir.ref04_Compare = true := by kernel_rfl
theorem c19 : chkFn Try.prog Try.f19 Ir.value_Equal = true := by kernel_rfl
theorem c20 : chkFn Try.prog Try.f20 Ir.ref04_Equal = true := by kernel_rfl
theorem c21 : chkFn Try.prog Try.f21 Ir.value_List = true := by kernel_rfl
theorem c22 : chkFn Try.prog Try.f22 Ir.value_Map = true := by kernel_rfl
theorem c23 : chkFn Try.prog Try.f23 Ir.ref04_List = true := by kernel_rfl
theorem c24 : chkFn Try.prog Try.f24 Ir.ref04_Map = true := by kernel_rfl
theorem c25 : chkFn Try.prog Try.f25 Ir.value_Int = true := by kernel_rfl
theorem c26 : chkFn Try.prog Try.f26 Ir.ref04_Int = true := by kernel_rfl
theorem c27 : chkFn Try.prog Try.f27 Ir.value_String = true := by kernel_rfl
theorem c28 : chkFn Try.prog Try.f28 Ir.ref04_String = true := by kernel_rfl
theorem c29 : chkFn Try.prog Try.f29 Ir.value_Bool = true := by kernel_rfl
theorem c30 : chkFn Try.prog Try.f30 Ir.ref04_Bool = true := by kernel_rfl
theorem c31 : chkFn Try.prog Try.f31 Ir.value_Get = true := by kernel_rfl
theorem c32 : chkFn Try.prog Try.f32 Ir.ref04_Get = true := by kernel_rfl
theorem c33 : chkFn Try.prog Try.f33 Ir.value_With = true := by kernel_rfl
theorem c34 : chkFn Try.prog Try.f34 Ir.ref04_With = true := by kernel_rfl
theorem c35 : chkFn Try.prog Try.f35 Ir.value_Without = true := by kernel_rfl
theorem c36 : chkFn Try.prog Try.f36 Ir.ref04_Without = true := by kernel_rfl
theorem c37 : chkFn Try.prog Try.f37 Ir.ref04_Small = true := by kernel_rfl
theorem c38 : chkFn Try.prog Try.f38 Ir.value_Null = true := by kernel_rfl
theorem c39 : chkFn Try.prog Try.f39 Ir.value_valid = true := by kernel_rfl
theorem c40 : chkFn Try.prog Try.f40 Ir.ref04_valid = true := by kernel_rfl
theorem c41 : chkFn Try.prog Try.f41 Ir.cmp_Or = true := by kernel_rfl
theorem c42 : chkFn Try.prog Try.f42 Ir.cmp_Compare = true := by kernel_rfl
theorem c43 : chkFn Try.prog Try.f43 Ir.strings_Compare = true := by kernel_rfl
theorem c44 : chkFn Try.prog Try.f44 Ir.slices_CompareFunc = true := by kernel_rfl
theorem c45 : chkFn Try.prog Try.f45 Ir.slices_CompareFunc_45 = true := by kernel_rfl
theorem c46 : chkFn Try.prog Try.f46 Ir.value_Compare_1 = true := by kernel_rfl
theorem c47 : chkFn Try.prog Try.f47 Ir.ref04_order = true := by kernel_rfl
theorem c48 : chkFn Try.prog Try.f48 Ir.value_clone = true := by kernel_rfl
theorem c50 : chkFn Try.prog Try.f50 Ir.slices_SortStableFunc = true := by kernel_rfl
theorem c51 : chkFn Try.prog Try.f51 Ir.value_Map_1 = true := by kernel_rfl
theorem c52 : chkFn Try.prog Try.f52 Ir.ref04_Copy = true := by kernel_rfl
theorem c53 : chkFn Try.prog Try.f53 Ir.ref04_put = true := by kernel_rfl
theorem c54 : chkFn Try.prog Try.f54 Ir.value_others = true := by kernel_rfl
theorem c55 : chkFn Try.prog Try.f55 Ir.ref04_others = true := by kernel_rfl
theorem c56 : chkFn Try.prog Try.f56 Ir.ref04_count = true := by kernel_rfl
theorem c57 : chkFn Try.prog Try.f57 Ir.value_scalar = true := by kernel_rfl
theorem c58 : chkFn Try.prog Try.f58 Ir.value_name = true := by kernel_rfl
theorem c59 : chkFn Try.prog Try.f59 Ir.ref04_scalar = true := by kernel_rfl
theorem c60 : chkFn Try.prog Try.f60 Ir.ref04_ValidField = true := by kernel_rfl
theorem c61 : chkFn Try.prog Try.f61 Ir.cmp_isNaN = true := by kernel_rfl
theorem c64 : chkFn Try.prog Try.f64 Ir.slices_stableCmpFunc = true := by kernel_rfl
theorem c65 : chkFn Try.prog Try.f65 Ir.slices_DeleteFunc = true := by kernel_rfl
theorem c66 : chkFn Try.prog Try.f66 Ir.value_others_1 = true := by kernel_rfl
theorem c67 : chkFn Try.prog Try.f67 Ir.value_text = true := by kernel_rfl
theorem c68 : chkFn Try.prog Try.f68 Ir.ref04_ValidString = true := by kernel_rfl
theorem c70 : chkFn Try.prog Try.f70 Ir.slices_insertionSortCmpFunc = true := by kernel_rfl
theorem c71 : chkFn Try.prog Try.f71 Ir.slices_symMergeCmpFunc = true := by kernel_rfl
theorem c72 : chkFn Try.prog Try.f72 Ir.slices_IndexFunc = true := by kernel_rfl
theorem c73 : chkFn Try.prog Try.f73 Ir.slices_rotateCmpFunc = true := by kernel_rfl
theorem c74 : chkFn Try.prog Try.f74 Ir.slices_swapRangeCmpFunc = true := by kernel_rfl
theorem k49 : chkClone Try.prog Try.f49 6 96 [.str ⟨#[]⟩, .int .i64 0, .int .i64 0, .str ⟨#[]⟩, .ns 5, .ns 6] = true := by kernel_rfl
theorem k63 : chkClone Try.prog Try.f63 5 80 [.int .i64 0, .int .i64 0, .str ⟨#[]⟩, .ns 5, .ns 6] = true := by kernel_rfl

theorem mixed : Try.prog.follows .mixedOrders = true := by kernel_rfl
theorem own : ownKnob Try.prog.godebug = none := by kernel_rfl
theorem laidOut : laidOutB Try.prog = true := by kernel_rfl
theorem tie (cmp : CmpOK Try.prog 62) : Tie Try.prog (tabG Ir.table) :=
  tie_ir Try.func3 c3 <| tie_ir Try.func4 c4 <| tie_ir Try.func5 c5 <| tie_ir Try.func6 c6 <| tie_ir Try.func7 c7 <| tie_ir Try.func8 c8 <| tie_ir Try.func9 c9 <| tie_ir Try.func10 c10 <| tie_ir Try.func11 c11 <| tie_ir Try.func12 c12 <| tie_ir Try.func13 c13 <| tie_ir Try.func14 c14 <| tie_ir Try.func15 c15 <| tie_ir Try.func16 c16 <| tie_ir Try.func17 c17 <| tie_ir Try.func18 c18 <| tie_ir Try.func19 c19 <| tie_ir Try.func20 c20 <| tie_ir Try.func21 c21 <| tie_ir Try.func22 c22 <| tie_ir Try.func23 c23 <| tie_ir Try.func24 c24 <| tie_ir Try.func25 c25 <| tie_ir Try.func26 c26 <| tie_ir Try.func27 c27 <| tie_ir Try.func28 c28 <| tie_ir Try.func29 c29 <| tie_ir Try.func30 c30 <| tie_ir Try.func31 c31 <| tie_ir Try.func32 c32 <| tie_ir Try.func33 c33 <| tie_ir Try.func34 c34 <| tie_ir Try.func35 c35 <| tie_ir Try.func36 c36 <| tie_ir Try.func37 c37 <| tie_ir Try.func38 c38 <| tie_ir Try.func39 c39 <| tie_ir Try.func40 c40 <| tie_ir Try.func41 c41 <| tie_ir Try.func42 c42 <| tie_ir Try.func43 c43 <| tie_ir Try.func44 c44 <| tie_ir Try.func45 c45 <| tie_ir Try.func46 c46 <| tie_ir Try.func47 c47 <| tie_ir Try.func48 c48 <| (fun h => tie_any h (clone_ok mixed Try.func49 k49)) <| tie_ir Try.func50 c50 <| tie_ir Try.func51 c51 <| tie_ir Try.func52 c52 <| tie_ir Try.func53 c53 <| tie_ir Try.func54 c54 <| tie_ir Try.func55 c55 <| tie_ir Try.func56 c56 <| tie_ir Try.func57 c57 <| tie_ir Try.func58 c58 <| tie_ir Try.func59 c59 <| tie_ir Try.func60 c60 <| tie_ir Try.func61 c61 <| (fun h => tie_any h cmp) <| (fun h => tie_any h (clone_ok mixed Try.func63 k63)) <| tie_ir Try.func64 c64 <| tie_ir Try.func65 c65 <| tie_ir Try.func66 c66 <| tie_ir Try.func67 c67 <| tie_ir Try.func68 c68 <| tie_ir Try.func70 c70 <| tie_ir Try.func71 c71 <| tie_ir Try.func72 c72 <| tie_ir Try.func73 c73 <| tie_ir Try.func74 c74 <| tie_nil

end Go.Proofs.Ytedohmdgbilicaa
