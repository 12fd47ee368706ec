/- What every row of this seat asks of the program. -/
import Derived.Test.YtecgjdkejgcfbaaDoorRows
import Derived.Test.YtecgjdkejgcfbaaDoorPvL
namespace Go.Proofs.YtecgjdkejgcfbaaDoor
open Go Go.Pv Go.RowKit
theorem own : ownKnob Tryd.prog.godebug = none := by kernel_rfl
theorem laidOut : laidOutB Tryd.prog = true := by kernel_rfl
end Go.Proofs.YtecgjdkejgcfbaaDoor
