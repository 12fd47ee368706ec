/- The chapter's chunk of texts by codec 1, and what is asked of it: closed, reckoned. -/
import Derived.Test.YthbjeeipeadilaaGreatTA0
set_option maxRecDepth 100000
namespace Go.Proofs.YthbjeeipeadilaaGreat
open Go Go.Pv Go.RowKit
theorem made1 : FnC Tryz.prog 30 [colD, exD, .agg [.int .i64 1, .int .i64 0]] (· = .tup [chkD1, .bool true]) := runC_true (readOK extOK) 1000 100 (by kernel_rfl)
theorem test1 : FnC Tryz.prog 33 [chkD1, predD] (· = .tup [setD 5 25, setD 5 2, .int .i64 0]) := runC_true (readOK extOK) 1000 100 (by kernel_rfl)
end Go.Proofs.YthbjeeipeadilaaGreat
