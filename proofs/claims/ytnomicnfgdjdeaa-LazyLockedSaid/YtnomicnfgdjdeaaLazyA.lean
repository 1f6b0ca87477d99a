/- awake answers true. No condition. -/
import Derived.Test.YtnomicnfgdjdeaaLazyV
import Derived.KernelRfl
namespace Go.Proofs.Ytnomicnfgdjdeaa.Ab
open Go.RowKit
theorem awake13 : cd Γ 13 [] = some (.bool true) := cd_iff.2 ⟨150, by kernel_rfl⟩
end Go.Proofs.Ytnomicnfgdjdeaa.Ab
