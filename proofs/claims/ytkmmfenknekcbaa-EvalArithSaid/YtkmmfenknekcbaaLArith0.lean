/-
  dossierlaw6.EvalArith returns true, whatever its five arguments, and they read as they did.
-/
import Derived.Test.YtkmmfenknekcbaaWLaw6
import Derived.Test.YtkmmfenknekcbaaDsWhole
set_option linter.unusedSimpArgs false
set_option linter.unusedVariables false
set_option maxRecDepth 100000
namespace Go.Proofs.Ytkmmfenknekcbaa
open Go Go.Ae Go.Ds Go.RowKit Go.ChangeShapes Go.WideShapes Go.ChangeAt
abbrev nameE (t : Str) : E := .mk 5 false 0 0 t false false []
abbrev binE (t : Str) (x y : E) : E := .mk 6 false 0 0 t false false [x, y]
def opI (k : Nat) (x y : Int) : Int := match k with | 0 => x + y | 1 => x - y | _ => x * y
theorem bin_0 (x y : Int) (h : -1000000000 ≤ opI 0 x y ∧ opI 0 x y ≤ 1000000000) : binV [43] (numV x 0) (numV y 0) = (numV (opI 0 x y) 0, 0) := by
  have := addP_whole x y h
  simp [binV, arithV, V.k, V.m, V.s, foundV, opI, this]
theorem bin_1 (x y : Int) (h : -1000000000 ≤ opI 1 x y ∧ opI 1 x y ≤ 1000000000) : binV [45] (numV x 0) (numV y 0) = (numV (opI 1 x y) 0, 0) := by
  have := addP_whole x (-y) (by simp only [opI] at h; omega)
  simp [binV, arithV, V.k, V.m, V.s, foundV, opI, this]
  omega
theorem bin_2 (x y : Int) (h : -1000000000 ≤ opI 2 x y ∧ opI 2 x y ≤ 1000000000) : binV [42] (numV x 0) (numV y 0) = (numV (opI 2 x y) 0, 0) := by
  have := mulP_whole x y h
  simp [binV, arithV, V.k, V.m, V.s, foundV, opI, this]
theorem op_bound (k : Nat) (x y X Y : Int) (h : -X ≤ x ∧ x ≤ X) (h' : -Y ≤ y ∧ y ≤ Y) : (-(X + Y) ≤ opI k x y ∧ opI k x y ≤ X + Y) ∨ (-(X * Y) ≤ opI k x y ∧ opI k x y ≤ X * Y) := by
  have := mul_bound h h'
  match k with
  | 0 => left; simp only [opI]; omega
  | 1 => left; simp only [opI]; omega
  | _ + 2 => right; exact this
theorem w_law_op (k : Nat) (x y : Int) (hk : k ≤ 2) (h : -9223372036854775808 ≤ opI k x y ∧ opI k x y ≤ 9223372036854775807) : call A 13 [iv x, iv y, iv k] [] = some (iv (opI k x y), []) := by
  refine call_body (af := af13) rfl fnT13 rfl ?_
  match k, hk, h with
  | 0, _, h => simp only [opI] at h; simp -implicitDefEqProofs [af13, opI, wrapI _ h.1 h.2]
  | 1, _, h => simp only [opI] at h; simp -implicitDefEqProofs [af13, opI, wrapI _ h.1 h.2]
  | 2, _, h => simp only [opI] at h; simp -implicitDefEqProofs [af13, opI, wrapI _ h.1 h.2]
theorem env_ok (a b c : Int) (ha : -1000 ≤ a ∧ a ≤ 1000) (hb : -1000 ≤ b ∧ b ≤ 1000) (hc : -1000 ≤ c ∧ c ≤ 1000) : okEnv [([97], numV a 0), ([98], numV b 0), ([99], numV c 0)] := by
  intro x hx
  simp only [List.mem_cons, List.not_mem_nil, or_false] at hx
  rcases hx with rfl | rfl | rfl
  · exact isV_num (isD_whole (by omega)) 0
  · exact isV_num (isD_whole (by omega)) 0
  · exact isV_num (isD_whole (by omega)) 0
theorem opStr : IntKind.i64.max = 9223372036854775807 := by decide
theorem p_00 : call A 15 [sv [97, 32, 43, 32, 98, 32, 43, 32, 99]] [] = some (.tup [.agg (encE (binE [43] (binE [43] (nameE [97]) (nameE [98])) (nameE [99]))), iv 9, iv 0], []) := call_iff.2 ⟨200, by kernel_rfl⟩
theorem p_01 : call A 15 [sv [97, 32, 43, 32, 98, 32, 45, 32, 99]] [] = some (.tup [.agg (encE (binE [45] (binE [43] (nameE [97]) (nameE [98])) (nameE [99]))), iv 9, iv 0], []) := call_iff.2 ⟨200, by kernel_rfl⟩
theorem p_02 : call A 15 [sv [97, 32, 43, 32, 98, 32, 42, 32, 99]] [] = some (.tup [.agg (encE (binE [43] (nameE [97]) (binE [42] (nameE [98]) (nameE [99])))), iv 9, iv 0], []) := call_iff.2 ⟨200, by kernel_rfl⟩
theorem p_10 : call A 15 [sv [97, 32, 45, 32, 98, 32, 43, 32, 99]] [] = some (.tup [.agg (encE (binE [43] (binE [45] (nameE [97]) (nameE [98])) (nameE [99]))), iv 9, iv 0], []) := call_iff.2 ⟨200, by kernel_rfl⟩
theorem p_11 : call A 15 [sv [97, 32, 45, 32, 98, 32, 45, 32, 99]] [] = some (.tup [.agg (encE (binE [45] (binE [45] (nameE [97]) (nameE [98])) (nameE [99]))), iv 9, iv 0], []) := call_iff.2 ⟨200, by kernel_rfl⟩
theorem p_12 : call A 15 [sv [97, 32, 45, 32, 98, 32, 42, 32, 99]] [] = some (.tup [.agg (encE (binE [45] (nameE [97]) (binE [42] (nameE [98]) (nameE [99])))), iv 9, iv 0], []) := call_iff.2 ⟨200, by kernel_rfl⟩
theorem p_20 : call A 15 [sv [97, 32, 42, 32, 98, 32, 43, 32, 99]] [] = some (.tup [.agg (encE (binE [43] (binE [42] (nameE [97]) (nameE [98])) (nameE [99]))), iv 9, iv 0], []) := call_iff.2 ⟨200, by kernel_rfl⟩
theorem p_21 : call A 15 [sv [97, 32, 42, 32, 98, 32, 45, 32, 99]] [] = some (.tup [.agg (encE (binE [45] (binE [42] (nameE [97]) (nameE [98])) (nameE [99]))), iv 9, iv 0], []) := call_iff.2 ⟨200, by kernel_rfl⟩
theorem p_22 : call A 15 [sv [97, 32, 42, 32, 98, 32, 42, 32, 99]] [] = some (.tup [.agg (encE (binE [42] (binE [42] (nameE [97]) (nameE [98])) (nameE [99]))), iv 9, iv 0], []) := call_iff.2 ⟨200, by kernel_rfl⟩
end Go.Proofs.Ytkmmfenknekcbaa
