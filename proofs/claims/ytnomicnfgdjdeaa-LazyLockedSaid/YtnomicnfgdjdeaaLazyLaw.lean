/- What all rows of the seat share. No condition. -/
import Derived.Test.YtnomicnfgdjdeaaRows
import Derived.Test.YtnomicnfgdjdeaaLazyE
namespace Go.Proofs.Ytnomicnfgdjdeaa.Ab
open Go.RowKit
theorem own : ownKnob Try.prog.godebug = none := by kernel_rfl
theorem laidOut : laidOutB Try.prog = true := by kernel_rfl
end Go.Proofs.Ytnomicnfgdjdeaa.Ab
