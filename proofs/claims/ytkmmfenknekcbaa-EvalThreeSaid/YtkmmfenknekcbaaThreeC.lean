/-
  EvalThree carried out at (2, 0), (2, 1), (2, 2).
-/
import Derived.Test.YtkmmfenknekcbaaBase
namespace Go.Proofs.Ytkmmfenknekcbaa
open Go.Ae
theorem t20 : callN A 300 6 [.d (.int .i64 2), .d (.int .i64 0)] [] = some (.d (.bool true), []) := by kernel_rfl
theorem t21 : callN A 300 6 [.d (.int .i64 2), .d (.int .i64 1)] [] = some (.d (.bool true), []) := by kernel_rfl
theorem t22 : callN A 300 6 [.d (.int .i64 2), .d (.int .i64 2)] [] = some (.d (.bool true), []) := by kernel_rfl
end Go.Proofs.Ytkmmfenknekcbaa
