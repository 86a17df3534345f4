/-
  EvalThree carried out at (1, 0), (1, 1), (1, 2).
-/
import Derived.Test.YtkmmfenknekcbaaBase
namespace Go.Proofs.Ytkmmfenknekcbaa
open Go.Ae
theorem t10 : callN A 300 6 [.d (.int .i64 1), .d (.int .i64 0)] [] = some (.d (.bool true), []) := by kernel_rfl
theorem t11 : callN A 300 6 [.d (.int .i64 1), .d (.int .i64 1)] [] = some (.d (.bool true), []) := by kernel_rfl
theorem t12 : callN A 300 6 [.d (.int .i64 1), .d (.int .i64 2)] [] = some (.d (.bool true), []) := by kernel_rfl
end Go.Proofs.Ytkmmfenknekcbaa
