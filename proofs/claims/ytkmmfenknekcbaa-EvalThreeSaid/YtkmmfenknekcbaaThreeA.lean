/-
  EvalThree carried out at (0, 0), (0, 1), (0, 2).
-/
import Derived.Test.YtkmmfenknekcbaaBase
namespace Go.Proofs.Ytkmmfenknekcbaa
open Go.Ae
theorem t00 : callN A 300 6 [.d (.int .i64 0), .d (.int .i64 0)] [] = some (.d (.bool true), []) := by kernel_rfl
theorem t01 : callN A 300 6 [.d (.int .i64 0), .d (.int .i64 1)] [] = some (.d (.bool true), []) := by kernel_rfl
theorem t02 : callN A 300 6 [.d (.int .i64 0), .d (.int .i64 2)] [] = some (.d (.bool true), []) := by kernel_rfl
end Go.Proofs.Ytkmmfenknekcbaa
