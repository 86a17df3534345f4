/-
  HOW VALUES STAND TO ONE ANOTHER: plain laws.
-/
import Derived.Test.YtkmmfenknekcbaaGreatDsDat
set_option linter.unusedSimpArgs false
set_option linter.unusedVariables false
namespace Go.Ds
open Go.Ae
theorem bytesLt_irrefl : ∀ a : Str, bytesLt a a = false
  | [] => rfl
  | x :: a => by
    have := bytesLt_irrefl a
    simp only [bytesLt] at this
    simp [bytesLt, Op.bytesLess, this]
theorem ord_refl (a : Int) : ord a a = 0 := by simp [ord]
theorem ordT_refl (a : Str) : ordT a a = 0 := by simp [ordT, bytesLt_irrefl]
mutual
theorem cmpV_refl : ∀ v : V, cmpV v v = 0
  | .mk k b m s t l => by
    rw [cmpV]
    simp [ord_refl, ordT_refl, cmpVs_refl l]
theorem cmpVs_refl : ∀ l : List V, cmpVs l l = 0
  | [] => by rw [cmpVs]
  | v :: l => by rw [cmpVs]; simp [cmpV_refl v, cmpVs_refl l]
end
theorem ord_range (a b : Int) : -1 ≤ ord a b ∧ ord a b ≤ 1 := by unfold ord; split <;> (try split) <;> omega
theorem ordT_range (a b : Str) : -1 ≤ ordT a b ∧ ordT a b ≤ 1 := by unfold ordT; split <;> (try split) <;> omega
mutual
theorem cmpV_range : ∀ v v' : V, -1 ≤ cmpV v v' ∧ cmpV v v' ≤ 1
  | .mk k b m s t l, .mk k' b' m' s' t' l' => by
    rw [cmpV]
    have h1 := ord_range k k'
    have h2 := ord_range (tt m s) (tt m' s')
    have h3 := ordT_range t t'
    have h4 := cmpVs_range l l'
    have h5 : -1 ≤ bi b - bi b' ∧ bi b - bi b' ≤ 1 := by cases b <;> cases b' <;> decide
    repeat' split
    all_goals omega
theorem cmpVs_range : ∀ l l' : List V, -1 ≤ cmpVs l l' ∧ cmpVs l l' ≤ 1
  | [], [] => by rw [cmpVs]; omega
  | [], _ :: _ => by rw [cmpVs]; omega
  | _ :: _, [] => by rw [cmpVs]; omega
  | v :: l, v' :: l' => by
    rw [cmpVs]
    have h1 := cmpV_range v v'
    have h2 := cmpVs_range l l'
    split <;> omega
end
theorem cmpVs_more (x : V) : ∀ l : List V, cmpVs l (l ++ [x]) = -1 ∧ cmpVs (l ++ [x]) l = 1
  | [] => by simp [cmpVs]
  | v :: l => by
    have := cmpVs_more x l
    simp [cmpVs, cmpV_refl, this]
end Go.Ds
