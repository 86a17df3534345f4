/-
  WHOLE NUMBERS THAT FIT ARE RECKONED AS SUCH.
-/
import Derived.Test.YtkmmfenknekcbaaDsEvOk
set_option linter.unusedSimpArgs false
set_option linter.unusedVariables false
namespace Go.Ds
open Go.Ae
theorem fitP_whole (n : Int) (h : -1000000000 ≤ n ∧ n ≤ 1000000000) : fitP n 0 = ((n, 0), 0) := by
  unfold fitP
  rw [if_neg (by omega)]
  have hf : fits9 n := h
  simp [fitN, hr_one, hf, bareN]
theorem addP_whole (m m' : Int) (h : -1000000000 ≤ m + m' ∧ m + m' ≤ 1000000000) : addP m 0 m' 0 = ((m + m', 0), 0) := by
  unfold addP
  rw [← Int.add_mul]
  have := fitP_scale (m + m') 0 (by omega) (by omega)
  rw [show (((4 : Int) - 0).toNat) = 4 - 0 by omega, this]
  exact fitP_whole _ h
theorem mulP_whole (m m' : Int) (h : -1000000000 ≤ m * m' ∧ m * m' ≤ 1000000000) : mulP m 0 m' 0 = ((m * m', 0), 0) := by
  unfold mulP
  exact fitP_whole _ h
end Go.Ds
