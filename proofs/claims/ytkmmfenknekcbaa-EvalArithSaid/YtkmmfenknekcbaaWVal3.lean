/-
  WALKS: packages val and dossierref2: Truth, And, Or, Not, Cmp, Equal, Is.
-/
import Derived.Test.YtkmmfenknekcbaaWDec2
import Derived.Test.YtkmmfenknekcbaaWVal2
import Derived.Test.YtkmmfenknekcbaaDsEvOk
set_option linter.unusedSimpArgs false
set_option linter.unusedVariables false
set_option maxRecDepth 100000
namespace Go.Proofs.Ytkmmfenknekcbaa
open Go Go.Ae Go.Ds
theorem w_val_truth (b : Bool) : call A 65 [bv b] [] = some (.agg (encV (truthV b)), []) := by
  refine call_body (af := af65) rfl fnT65 rfl ?_
  simp -implicitDefEqProofs [af65, encV_mk]
theorem w_val_false (v : V) : call A 64 [.agg (encV v)] [] = some (bv (isFal v), []) := by
  refine call_body (af := af64) rfl fnT64 rfl ?_
  rcases v with ⟨k, b, m, s, t, l⟩
  by_cases h : k = 1 <;> simp -implicitDefEqProofs [af64, encV_mk, isFal, V.k, V.b, h]
theorem w_val_Truth (v : V) : call A 25 [.agg (encV v)] [] = some (bv (isTru v), []) := by
  refine call_body (af := af25) rfl fnT25 rfl ?_
  rcases v with ⟨k, b, m, s, t, l⟩
  by_cases h : k = 1 <;> simp -implicitDefEqProofs [af25, encV_mk, isTru, V.k, V.b, h]
theorem w_val_Not (v : V) : call A 66 [.agg (encV v)] [] = some (.agg (encV (notV v)), []) := by
  refine call_body (af := af66) rfl fnT66 rfl ?_
  rcases v with ⟨k, b, m, s, t, l⟩
  have ht := w_val_truth (!b)
  rw [encV_mk] at ht
  by_cases h : k = 1 <;> simp -implicitDefEqProofs [af66, encV_mk, notV, V.k, V.b, h, ht]
theorem w_val_And (a b : V) : call A 41 [.agg (encV a), .agg (encV b)] [] = some (.agg (encV (andV a b)), []) := by
  refine call_body (af := af41) rfl fnT41 rfl ?_
  have f1 := w_val_false a
  have f2 := w_val_false b
  have t1 := w_val_Truth a
  have t2 := w_val_Truth b
  have g1 := w_val_truth true
  have g2 := w_val_truth false
  rw [encV_mk] at g1 g2
  unfold andV
  cases h1 : isFal a <;> cases h2 : isFal b <;> cases h3 : isTru a <;> cases h4 : isTru b <;> rw [h1] at f1 <;> rw [h2] at f2 <;> rw [h3] at t1 <;> rw [h4] at t2 <;> simp -implicitDefEqProofs [af41, f1, f2, t1, t2, g1, g2, encV_mk]
theorem w_val_Or (a b : V) : call A 42 [.agg (encV a), .agg (encV b)] [] = some (.agg (encV (orV a b)), []) := by
  refine call_body (af := af42) rfl fnT42 rfl ?_
  simp -implicitDefEqProofs [af42, w_val_Not, w_val_And, orV_eq]
end Go.Proofs.Ytkmmfenknekcbaa
