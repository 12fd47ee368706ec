/- GroupNone: the law's answer. -/
import Derived.Test.YthpdjhlkomenmaaGreatDoorIF
import Derived.Test.YthpdjhlkomenmaaGreatDoorChecked
namespace Go.Proofs.YthpdjhlkomenmaaGreatDoor
open Go Go.Pv Go.RowKit
set_option maxRecDepth 100000
theorem lawGroup : FnC Tryz.prog 4 [] (· = .bool true) := runX_true (fun _ _ => extOK) 1000 100 (by kernel_rfl)
end Go.Proofs.YthpdjhlkomenmaaGreatDoor
