/- The printed functions are the given ones. -/
import Derived.Test.YtpmdkaecfoakkaaPvS
import Derived.Test.YtpmdkaecfoakkaaProg
import Derived.Test.YtpmdkaecfoakkaaIr
import Derived.KernelRfl
namespace Go.Proofs.Ytpmdkaecfoakkaa
open Go.Pv

theorem c3 : chkFn Try.prog Try.f3 Ir.law02_ResourceSums = true := by kernel_rfl
theorem c4 : chkFn Try.prog Try.f4 Ir.law02_ResourcePods = true := by kernel_rfl
theorem c5 : chkFn Try.prog Try.f5 Ir.law02_ResourceBalance = true := by kernel_rfl
theorem c6 : chkFn Try.prog Try.f6 Ir.law02_ResourceAdds = true := by kernel_rfl
theorem c7 : chkFn Try.prog Try.f7 Ir.law02_ResourceOrder = true := by kernel_rfl
theorem c8 : chkFn Try.prog Try.f8 Ir.law22_QuotaSays = true := by kernel_rfl
theorem c9 : chkFn Try.prog Try.f9 Ir.law22_QuotaKeeps = true := by kernel_rfl
theorem c10 : chkFn Try.prog Try.f10 Ir.law22_QuotaIgnores = true := by kernel_rfl
theorem c11 : chkFn Try.prog Try.f11 Ir.law22_QuotaGrows = true := by kernel_rfl
theorem c12 : chkFn Try.prog Try.f12 Ir.law02_lives = true := by kernel_rfl
theorem c13 : chkFn Try.prog Try.f13 Ir.resource_Add = true := by kernel_rfl
theorem c14 : chkFn Try.prog Try.f14 Ir.ref02_Add = true := by kernel_rfl
theorem c15 : chkFn Try.prog Try.f15 Ir.resource_Sub = true := by kernel_rfl
theorem c16 : chkFn Try.prog Try.f16 Ir.ref02_Sub = true := by kernel_rfl
theorem c17 : chkFn Try.prog Try.f17 Ir.resource_Fits = true := by kernel_rfl
theorem c18 : chkFn Try.prog Try.f18 Ir.ref02_Fits = true := by kernel_rfl
theorem c19 : chkFn Try.prog Try.f19 Ir.resource_Requests = true := by kernel_rfl
theorem c20 : chkFn Try.prog Try.f20 Ir.ref02_Requests = true := by kernel_rfl
theorem c21 : chkFn Try.prog Try.f21 Ir.resource_Limits = true := by kernel_rfl
theorem c22 : chkFn Try.prog Try.f22 Ir.ref02_Limits = true := by kernel_rfl
theorem c23 : chkFn Try.prog Try.f23 Ir.law22_Small = true := by kernel_rfl
theorem c24 : chkFn Try.prog Try.f24 Ir.law19_SmallPod = true := by kernel_rfl
theorem c25 : chkFn Try.prog Try.f25 Ir.law19_SmallMeta = true := by kernel_rfl
theorem c26 : chkFn Try.prog Try.f26 Ir.law22_lives = true := by kernel_rfl
theorem c27 : chkFn Try.prog Try.f27 Ir.quota_Usage = true := by kernel_rfl
theorem c28 : chkFn Try.prog Try.f28 Ir.ref22_Usage = true := by kernel_rfl
theorem c29 : chkFn Try.prog Try.f29 Ir.quota_Status = true := by kernel_rfl
theorem c30 : chkFn Try.prog Try.f30 Ir.ref22_Status = true := by kernel_rfl
theorem c31 : chkFn Try.prog Try.f31 Ir.quota_Admit = true := by kernel_rfl
theorem c32 : chkFn Try.prog Try.f32 Ir.ref22_Admit = true := by kernel_rfl
theorem c33 : chkFn Try.prog Try.f33 Ir.ref19_SameMeta = true := by kernel_rfl
theorem c34 : chkFn Try.prog Try.f34 Ir.law22_within = true := by kernel_rfl
theorem c35 : chkFn Try.prog Try.f35 Ir.resource_each = true := by kernel_rfl
theorem c36 : chkFn Try.prog Try.f36 Ir.resource_Add_1 = true := by kernel_rfl
theorem c37 : chkFn Try.prog Try.f37 Ir.resource_clamp = true := by kernel_rfl
theorem c38 : chkFn Try.prog Try.f38 Ir.ref02_clamp = true := by kernel_rfl
theorem c39 : chkFn Try.prog Try.f39 Ir.resource_Sub_1 = true := by kernel_rfl
theorem c40 : chkFn Try.prog Try.f40 Ir.ref19_FromPod = true := by kernel_rfl
theorem c41 : chkFn Try.prog Try.f41 Ir.ref06_Few = true := by kernel_rfl
theorem c42 : chkFn Try.prog Try.f42 Ir.law22_asks = true := by kernel_rfl
theorem c43 : chkFn Try.prog Try.f43 Ir.quota_counts = true := by kernel_rfl
theorem c44 : chkFn Try.prog Try.f44 Ir.ref22_counts = true := by kernel_rfl
theorem c45 : chkFn Try.prog Try.f45 Ir.quota_of = true := by kernel_rfl
theorem c46 : chkFn Try.prog Try.f46 Ir.ref22_Own = true := by kernel_rfl
theorem c47 : chkFn Try.prog Try.f47 Ir.quota_over = true := by kernel_rfl
theorem c48 : chkFn Try.prog Try.f48 Ir.ref22_over = true := by kernel_rfl
theorem c49 : chkFn Try.prog Try.f49 Ir.ref03_Same = true := by kernel_rfl
theorem c50 : chkFn Try.prog Try.f50 Ir.ref03_SameStrings = true := by kernel_rfl
theorem c51 : chkFn Try.prog Try.f51 Ir.ref19_FromSpec = true := by kernel_rfl
theorem c52 : chkFn Try.prog Try.f52 Ir.ref19_fromStatus = true := by kernel_rfl
theorem c53 : chkFn Try.prog Try.f53 Ir.ref06_left = true := by kernel_rfl
theorem c54 : chkFn Try.prog Try.f54 Ir.ref19_object = true := by kernel_rfl
theorem c55 : chkFn Try.prog Try.f55 Ir.ref19_at = true := by kernel_rfl
theorem c56 : chkFn Try.prog Try.f56 Ir.ref19_fromContainers = true := by kernel_rfl
theorem c57 : chkFn Try.prog Try.f57 Ir.ref19_num = true := by kernel_rfl
theorem c58 : chkFn Try.prog Try.f58 Ir.ref19_str = true := by kernel_rfl
theorem c59 : chkFn Try.prog Try.f59 Ir.ref19_FromSelector = true := by kernel_rfl
theorem c60 : chkFn Try.prog Try.f60 Ir.ref19_fromNodeTerms = true := by kernel_rfl
theorem c61 : chkFn Try.prog Try.f61 Ir.ref19_fromPodTerms = true := by kernel_rfl
theorem c62 : chkFn Try.prog Try.f62 Ir.ref19_fromSpread = true := by kernel_rfl
theorem c63 : chkFn Try.prog Try.f63 Ir.ref19_fromTolerations = true := by kernel_rfl
theorem c64 : chkFn Try.prog Try.f64 Ir.ref19_fromStatuses = true := by kernel_rfl
theorem c65 : chkFn Try.prog Try.f65 Ir.ref19_truth = true := by kernel_rfl
theorem c66 : chkFn Try.prog Try.f66 Ir.ref19_fromResources = true := by kernel_rfl
theorem c67 : chkFn Try.prog Try.f67 Ir.ref19_fromProbes = true := by kernel_rfl
theorem c68 : chkFn Try.prog Try.f68 Ir.ref19_list = true := by kernel_rfl
theorem c69 : chkFn Try.prog Try.f69 Ir.ref19_FromStrings = true := by kernel_rfl

theorem mixed : Try.prog.follows .mixedOrders = true := by kernel_rfl
theorem own : ownKnob Try.prog.godebug = none := by kernel_rfl
theorem laidOut : laidOutB Try.prog = true := by kernel_rfl
theorem tie : Tie Try.prog (tabG Ir.table) :=
  tie_ir Try.func3 c3 <| tie_ir Try.func4 c4 <| tie_ir Try.func5 c5 <| tie_ir Try.func6 c6 <| tie_ir Try.func7 c7 <| tie_ir Try.func8 c8 <| tie_ir Try.func9 c9 <| tie_ir Try.func10 c10 <| tie_ir Try.func11 c11 <| tie_ir Try.func12 c12 <| tie_ir Try.func13 c13 <| tie_ir Try.func14 c14 <| tie_ir Try.func15 c15 <| tie_ir Try.func16 c16 <| tie_ir Try.func17 c17 <| tie_ir Try.func18 c18 <| tie_ir Try.func19 c19 <| tie_ir Try.func20 c20 <| tie_ir Try.func21 c21 <| tie_ir Try.func22 c22 <| tie_ir Try.func23 c23 <| tie_ir Try.func24 c24 <| tie_ir Try.func25 c25 <| tie_ir Try.func26 c26 <| tie_ir Try.func27 c27 <| tie_ir Try.func28 c28 <| tie_ir Try.func29 c29 <| tie_ir Try.func30 c30 <| tie_ir Try.func31 c31 <| tie_ir Try.func32 c32 <| tie_ir Try.func33 c33 <| tie_ir Try.func34 c34 <| tie_ir Try.func35 c35 <| tie_ir Try.func36 c36 <| tie_ir Try.func37 c37 <| tie_ir Try.func38 c38 <| tie_ir Try.func39 c39 <| tie_ir Try.func40 c40 <| tie_ir Try.func41 c41 <| tie_ir Try.func42 c42 <| tie_ir Try.func43 c43 <| tie_ir Try.func44 c44 <| tie_ir Try.func45 c45 <| tie_ir Try.func46 c46 <| tie_ir Try.func47 c47 <| tie_ir Try.func48 c48 <| tie_ir Try.func49 c49 <| tie_ir Try.func50 c50 <| tie_ir Try.func51 c51 <| tie_ir Try.func52 c52 <| tie_ir Try.func53 c53 <| tie_ir Try.func54 c54 <| tie_ir Try.func55 c55 <| tie_ir Try.func56 c56 <| tie_ir Try.func57 c57 <| tie_ir Try.func58 c58 <| tie_ir Try.func59 c59 <| tie_ir Try.func60 c60 <| tie_ir Try.func61 c61 <| tie_ir Try.func62 c62 <| tie_ir Try.func63 c63 <| tie_ir Try.func64 c64 <| tie_ir Try.func65 c65 <| tie_ir Try.func66 c66 <| tie_ir Try.func67 c67 <| tie_ir Try.func68 c68 <| tie_ir Try.func69 c69 <| tie_nil

end Go.Proofs.Ytpmdkaecfoakkaa
