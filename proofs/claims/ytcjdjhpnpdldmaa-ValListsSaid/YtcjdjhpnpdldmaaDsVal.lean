/-
  HOW VALUES STAND TO ONE ANOTHER: plain laws.
-/
import Derived.Test.YtcjdjhpnpdldmaaDsDat
set_option linter.unusedSimpArgs false
set_option linter.unusedVariables false
namespace Go.Ds
open Go.Ae
theorem bytesLt_irrefl : ∀ a : Str, bytesLt a a = false
  | [] => rfl
  | x :: a => by
    have := bytesLt_irrefl a
    simp only [bytesLt] at this
    simp [bytesLt, Op.bytesLess, this]
theorem ord_refl (a : Int) : ord a a = 0 := by simp [ord]
theorem ordT_refl (a : Str) : ordT a a = 0 := by simp [ordT, bytesLt_irrefl]
mutual
theorem cmpV_refl : ∀ v : V, cmpV v v = 0
  | .mk k b m s t l => by
    rw [cmpV]
    simp [ord_refl, ordT_refl, cmpVs_refl l]
theorem cmpVs_refl : ∀ l : List V, cmpVs l l = 0
  | [] => by rw [cmpVs]
  | v :: l => by rw [cmpVs]; simp [cmpV_refl v, cmpVs_refl l]
end
theorem cmpVs_more (x : V) : ∀ l : List V, cmpVs l (l ++ [x]) = -1 ∧ cmpVs (l ++ [x]) l = 1
  | [] => by simp [cmpVs]
  | v :: l => by
    have := cmpVs_more x l
    simp [cmpVs, cmpV_refl, this]
end Go.Ds
