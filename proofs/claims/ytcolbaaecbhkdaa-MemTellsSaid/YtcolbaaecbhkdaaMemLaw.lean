/- What all rows of the seat share. No condition. -/
import Derived.Test.YtcolbaaecbhkdaaRows
import Derived.Test.YtcolbaaecbhkdaaMemE
namespace Go.Proofs.Ytcolbaaecbhkdaa.Ab
open Go.RowKit
theorem own : ownKnob Try.prog.godebug = none := by kernel_rfl
theorem laidOut : laidOutB Try.prog = true := by kernel_rfl
end Go.Proofs.Ytcolbaaecbhkdaa.Ab
