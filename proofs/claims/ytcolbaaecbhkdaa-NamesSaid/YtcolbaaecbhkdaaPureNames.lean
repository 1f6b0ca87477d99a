/- bellwethertop.Names returns true: all constants have their numbers. No condition. -/
import Derived.Test.YtcolbaaecbhkdaaPNamesx1
namespace Go.Proofs.Ytcolbaaecbhkdaa.Pure
open Go.RowKit Go.Proofs.Ytcolbaaecbhkdaa.PNames Go.Proofs.YtcolbaaecbhkdaaW.PrintWords Go.Proofs.YtcolbaaecbhkdaaW.PrintLast

/-- The printed function of Names is true. -/
theorem Names : bellwethertop_Names.Pure := by
  simp [bellwethertop_Names.Pure, bellwethertop_Names.f]

end Go.Proofs.Ytcolbaaecbhkdaa.Pure
