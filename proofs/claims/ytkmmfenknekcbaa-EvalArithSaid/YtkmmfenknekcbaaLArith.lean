/-
  dossierlaw6.EvalArith returns true, whatever its five arguments, and they read as they did.
-/
import Derived.Test.YtkmmfenknekcbaaLArith0
set_option linter.unusedSimpArgs false
set_option linter.unusedVariables false
set_option maxRecDepth 100000
namespace Go.Proofs.Ytkmmfenknekcbaa
open Go Go.Ae Go.Ds Go.RowKit Go.ChangeShapes Go.WideShapes Go.ChangeAt
theorem w_case00 (a b c : Int) (ha : -1000 ≤ a ∧ a ≤ 1000) (hb : -1000 ≤ b ∧ b ≤ 1000) (hc : -1000 ≤ c ∧ c ≤ 1000) : call A 5 [iv a, iv b, iv c, iv 0, iv 0] [] = some (bv true, []) := by
  refine call_body (af := af5) rfl fnT5 rfl ?_
  have ib := op_bound 0 a b 1000 1000 (by omega) (by omega)
  have ob := op_bound 0 (opI 0 a b) c 1000000 1000 (by have := op_bound 0 a b 1000 1000 (by omega) (by omega); omega) (by omega)
  have c1 := w_law_op 0 a b (by omega) (by omega)
  rw [show ((0 : Nat) : Int) = 0 from rfl] at c1
  have c2 := w_law_op 0 (opI 0 a b) c (by omega) (by omega)
  rw [show ((0 : Nat) : Int) = 0 from rfl] at c2
  have ct := w_told _ _ _ p_00 (by simp [binE, wfE, wfEs, reach]) _ (by simp) (env_ok a b c ha hb hc)
  have ev : evalS [([97], numV a 0), ([98], numV b 0), ([99], numV c 0)] (binE [43] (binE [43] (nameE [97]) (nameE [98])) (nameE [99])) = (numV (opI 0 (opI 0 a b) c) 0, 0) := by
    simp [binE, evalS, evalAll, mayE, kidsN, leafV, nameV, ofV, bin_0 a b (by omega), bin_0 (opI 0 a b) c (by omega)]
  rw [ev] at ct
  obtain ⟨W, hW⟩ : ∃ W, opI 0 (opI 0 a b) c = W := ⟨_, rfl⟩
  rw [hW] at ct c2 ob
  have hs := w_same (numV W 0) (isV_wf _ 0 (isV_num (isD_whole (by omega)) 0))
  have na := w_law_num a
  have nb := w_law_num b
  have nc := w_law_num c
  have nw := w_law_num W
  simp only [List.map_cons, List.map_nil, encB, encV_mk] at ct na nb nc nw hs
  simp -implicitDefEqProofs [af5, show ¬ a < -1000 by omega, show ¬ a > 1000 by omega, show ¬ b < -1000 by omega, show ¬ b > 1000 by omega, show ¬ c < -1000 by omega, show ¬ c > 1000 by omega, na, nb, nc, nw, ct, c1, c2, hs, w_known, encV_mk, opStr]
theorem w_case01 (a b c : Int) (ha : -1000 ≤ a ∧ a ≤ 1000) (hb : -1000 ≤ b ∧ b ≤ 1000) (hc : -1000 ≤ c ∧ c ≤ 1000) : call A 5 [iv a, iv b, iv c, iv 0, iv 1] [] = some (bv true, []) := by
  refine call_body (af := af5) rfl fnT5 rfl ?_
  have ib := op_bound 0 a b 1000 1000 (by omega) (by omega)
  have ob := op_bound 1 (opI 0 a b) c 1000000 1000 (by have := op_bound 0 a b 1000 1000 (by omega) (by omega); omega) (by omega)
  have c1 := w_law_op 0 a b (by omega) (by omega)
  rw [show ((0 : Nat) : Int) = 0 from rfl] at c1
  have c2 := w_law_op 1 (opI 0 a b) c (by omega) (by omega)
  rw [show ((1 : Nat) : Int) = 1 from rfl] at c2
  have ct := w_told _ _ _ p_01 (by simp [binE, wfE, wfEs, reach]) _ (by simp) (env_ok a b c ha hb hc)
  have ev : evalS [([97], numV a 0), ([98], numV b 0), ([99], numV c 0)] (binE [45] (binE [43] (nameE [97]) (nameE [98])) (nameE [99])) = (numV (opI 1 (opI 0 a b) c) 0, 0) := by
    simp [binE, evalS, evalAll, mayE, kidsN, leafV, nameV, ofV, bin_0 a b (by omega), bin_1 (opI 0 a b) c (by omega)]
  rw [ev] at ct
  obtain ⟨W, hW⟩ : ∃ W, opI 1 (opI 0 a b) c = W := ⟨_, rfl⟩
  rw [hW] at ct c2 ob
  have hs := w_same (numV W 0) (isV_wf _ 0 (isV_num (isD_whole (by omega)) 0))
  have na := w_law_num a
  have nb := w_law_num b
  have nc := w_law_num c
  have nw := w_law_num W
  simp only [List.map_cons, List.map_nil, encB, encV_mk] at ct na nb nc nw hs
  simp -implicitDefEqProofs [af5, show ¬ a < -1000 by omega, show ¬ a > 1000 by omega, show ¬ b < -1000 by omega, show ¬ b > 1000 by omega, show ¬ c < -1000 by omega, show ¬ c > 1000 by omega, na, nb, nc, nw, ct, c1, c2, hs, w_known, encV_mk, opStr]
theorem w_case02 (a b c : Int) (ha : -1000 ≤ a ∧ a ≤ 1000) (hb : -1000 ≤ b ∧ b ≤ 1000) (hc : -1000 ≤ c ∧ c ≤ 1000) : call A 5 [iv a, iv b, iv c, iv 0, iv 2] [] = some (bv true, []) := by
  refine call_body (af := af5) rfl fnT5 rfl ?_
  have ib := op_bound 2 b c 1000 1000 (by omega) (by omega)
  have ob := op_bound 0 a (opI 2 b c) 1000 1000000 (by omega) (by have := op_bound 2 b c 1000 1000 (by omega) (by omega); omega)
  have c1 := w_law_op 2 b c (by omega) (by omega)
  rw [show ((2 : Nat) : Int) = 2 from rfl] at c1
  have c2 := w_law_op 0 a (opI 2 b c) (by omega) (by omega)
  rw [show ((0 : Nat) : Int) = 0 from rfl] at c2
  have ct := w_told _ _ _ p_02 (by simp [binE, wfE, wfEs, reach]) _ (by simp) (env_ok a b c ha hb hc)
  have ev : evalS [([97], numV a 0), ([98], numV b 0), ([99], numV c 0)] (binE [43] (nameE [97]) (binE [42] (nameE [98]) (nameE [99]))) = (numV (opI 0 a (opI 2 b c)) 0, 0) := by
    simp [binE, evalS, evalAll, mayE, kidsN, leafV, nameV, ofV, bin_2 b c (by omega), bin_0 a (opI 2 b c) (by omega)]
  rw [ev] at ct
  obtain ⟨W, hW⟩ : ∃ W, opI 0 a (opI 2 b c) = W := ⟨_, rfl⟩
  rw [hW] at ct c2 ob
  have hs := w_same (numV W 0) (isV_wf _ 0 (isV_num (isD_whole (by omega)) 0))
  have na := w_law_num a
  have nb := w_law_num b
  have nc := w_law_num c
  have nw := w_law_num W
  simp only [List.map_cons, List.map_nil, encB, encV_mk] at ct na nb nc nw hs
  simp -implicitDefEqProofs [af5, show ¬ a < -1000 by omega, show ¬ a > 1000 by omega, show ¬ b < -1000 by omega, show ¬ b > 1000 by omega, show ¬ c < -1000 by omega, show ¬ c > 1000 by omega, na, nb, nc, nw, ct, c1, c2, hs, w_known, encV_mk, opStr]
theorem w_case10 (a b c : Int) (ha : -1000 ≤ a ∧ a ≤ 1000) (hb : -1000 ≤ b ∧ b ≤ 1000) (hc : -1000 ≤ c ∧ c ≤ 1000) : call A 5 [iv a, iv b, iv c, iv 1, iv 0] [] = some (bv true, []) := by
  refine call_body (af := af5) rfl fnT5 rfl ?_
  have ib := op_bound 1 a b 1000 1000 (by omega) (by omega)
  have ob := op_bound 0 (opI 1 a b) c 1000000 1000 (by have := op_bound 1 a b 1000 1000 (by omega) (by omega); omega) (by omega)
  have c1 := w_law_op 1 a b (by omega) (by omega)
  rw [show ((1 : Nat) : Int) = 1 from rfl] at c1
  have c2 := w_law_op 0 (opI 1 a b) c (by omega) (by omega)
  rw [show ((0 : Nat) : Int) = 0 from rfl] at c2
  have ct := w_told _ _ _ p_10 (by simp [binE, wfE, wfEs, reach]) _ (by simp) (env_ok a b c ha hb hc)
  have ev : evalS [([97], numV a 0), ([98], numV b 0), ([99], numV c 0)] (binE [43] (binE [45] (nameE [97]) (nameE [98])) (nameE [99])) = (numV (opI 0 (opI 1 a b) c) 0, 0) := by
    simp [binE, evalS, evalAll, mayE, kidsN, leafV, nameV, ofV, bin_1 a b (by omega), bin_0 (opI 1 a b) c (by omega)]
  rw [ev] at ct
  obtain ⟨W, hW⟩ : ∃ W, opI 0 (opI 1 a b) c = W := ⟨_, rfl⟩
  rw [hW] at ct c2 ob
  have hs := w_same (numV W 0) (isV_wf _ 0 (isV_num (isD_whole (by omega)) 0))
  have na := w_law_num a
  have nb := w_law_num b
  have nc := w_law_num c
  have nw := w_law_num W
  simp only [List.map_cons, List.map_nil, encB, encV_mk] at ct na nb nc nw hs
  simp -implicitDefEqProofs [af5, show ¬ a < -1000 by omega, show ¬ a > 1000 by omega, show ¬ b < -1000 by omega, show ¬ b > 1000 by omega, show ¬ c < -1000 by omega, show ¬ c > 1000 by omega, na, nb, nc, nw, ct, c1, c2, hs, w_known, encV_mk, opStr]
theorem w_case11 (a b c : Int) (ha : -1000 ≤ a ∧ a ≤ 1000) (hb : -1000 ≤ b ∧ b ≤ 1000) (hc : -1000 ≤ c ∧ c ≤ 1000) : call A 5 [iv a, iv b, iv c, iv 1, iv 1] [] = some (bv true, []) := by
  refine call_body (af := af5) rfl fnT5 rfl ?_
  have ib := op_bound 1 a b 1000 1000 (by omega) (by omega)
  have ob := op_bound 1 (opI 1 a b) c 1000000 1000 (by have := op_bound 1 a b 1000 1000 (by omega) (by omega); omega) (by omega)
  have c1 := w_law_op 1 a b (by omega) (by omega)
  rw [show ((1 : Nat) : Int) = 1 from rfl] at c1
  have c2 := w_law_op 1 (opI 1 a b) c (by omega) (by omega)
  rw [show ((1 : Nat) : Int) = 1 from rfl] at c2
  have ct := w_told _ _ _ p_11 (by simp [binE, wfE, wfEs, reach]) _ (by simp) (env_ok a b c ha hb hc)
  have ev : evalS [([97], numV a 0), ([98], numV b 0), ([99], numV c 0)] (binE [45] (binE [45] (nameE [97]) (nameE [98])) (nameE [99])) = (numV (opI 1 (opI 1 a b) c) 0, 0) := by
    simp [binE, evalS, evalAll, mayE, kidsN, leafV, nameV, ofV, bin_1 a b (by omega), bin_1 (opI 1 a b) c (by omega)]
  rw [ev] at ct
  obtain ⟨W, hW⟩ : ∃ W, opI 1 (opI 1 a b) c = W := ⟨_, rfl⟩
  rw [hW] at ct c2 ob
  have hs := w_same (numV W 0) (isV_wf _ 0 (isV_num (isD_whole (by omega)) 0))
  have na := w_law_num a
  have nb := w_law_num b
  have nc := w_law_num c
  have nw := w_law_num W
  simp only [List.map_cons, List.map_nil, encB, encV_mk] at ct na nb nc nw hs
  simp -implicitDefEqProofs [af5, show ¬ a < -1000 by omega, show ¬ a > 1000 by omega, show ¬ b < -1000 by omega, show ¬ b > 1000 by omega, show ¬ c < -1000 by omega, show ¬ c > 1000 by omega, na, nb, nc, nw, ct, c1, c2, hs, w_known, encV_mk, opStr]
theorem w_case12 (a b c : Int) (ha : -1000 ≤ a ∧ a ≤ 1000) (hb : -1000 ≤ b ∧ b ≤ 1000) (hc : -1000 ≤ c ∧ c ≤ 1000) : call A 5 [iv a, iv b, iv c, iv 1, iv 2] [] = some (bv true, []) := by
  refine call_body (af := af5) rfl fnT5 rfl ?_
  have ib := op_bound 2 b c 1000 1000 (by omega) (by omega)
  have ob := op_bound 1 a (opI 2 b c) 1000 1000000 (by omega) (by have := op_bound 2 b c 1000 1000 (by omega) (by omega); omega)
  have c1 := w_law_op 2 b c (by omega) (by omega)
  rw [show ((2 : Nat) : Int) = 2 from rfl] at c1
  have c2 := w_law_op 1 a (opI 2 b c) (by omega) (by omega)
  rw [show ((1 : Nat) : Int) = 1 from rfl] at c2
  have ct := w_told _ _ _ p_12 (by simp [binE, wfE, wfEs, reach]) _ (by simp) (env_ok a b c ha hb hc)
  have ev : evalS [([97], numV a 0), ([98], numV b 0), ([99], numV c 0)] (binE [45] (nameE [97]) (binE [42] (nameE [98]) (nameE [99]))) = (numV (opI 1 a (opI 2 b c)) 0, 0) := by
    simp [binE, evalS, evalAll, mayE, kidsN, leafV, nameV, ofV, bin_2 b c (by omega), bin_1 a (opI 2 b c) (by omega)]
  rw [ev] at ct
  obtain ⟨W, hW⟩ : ∃ W, opI 1 a (opI 2 b c) = W := ⟨_, rfl⟩
  rw [hW] at ct c2 ob
  have hs := w_same (numV W 0) (isV_wf _ 0 (isV_num (isD_whole (by omega)) 0))
  have na := w_law_num a
  have nb := w_law_num b
  have nc := w_law_num c
  have nw := w_law_num W
  simp only [List.map_cons, List.map_nil, encB, encV_mk] at ct na nb nc nw hs
  simp -implicitDefEqProofs [af5, show ¬ a < -1000 by omega, show ¬ a > 1000 by omega, show ¬ b < -1000 by omega, show ¬ b > 1000 by omega, show ¬ c < -1000 by omega, show ¬ c > 1000 by omega, na, nb, nc, nw, ct, c1, c2, hs, w_known, encV_mk, opStr]
theorem w_case20 (a b c : Int) (ha : -1000 ≤ a ∧ a ≤ 1000) (hb : -1000 ≤ b ∧ b ≤ 1000) (hc : -1000 ≤ c ∧ c ≤ 1000) : call A 5 [iv a, iv b, iv c, iv 2, iv 0] [] = some (bv true, []) := by
  refine call_body (af := af5) rfl fnT5 rfl ?_
  have ib := op_bound 2 a b 1000 1000 (by omega) (by omega)
  have ob := op_bound 0 (opI 2 a b) c 1000000 1000 (by have := op_bound 2 a b 1000 1000 (by omega) (by omega); omega) (by omega)
  have c1 := w_law_op 2 a b (by omega) (by omega)
  rw [show ((2 : Nat) : Int) = 2 from rfl] at c1
  have c2 := w_law_op 0 (opI 2 a b) c (by omega) (by omega)
  rw [show ((0 : Nat) : Int) = 0 from rfl] at c2
  have ct := w_told _ _ _ p_20 (by simp [binE, wfE, wfEs, reach]) _ (by simp) (env_ok a b c ha hb hc)
  have ev : evalS [([97], numV a 0), ([98], numV b 0), ([99], numV c 0)] (binE [43] (binE [42] (nameE [97]) (nameE [98])) (nameE [99])) = (numV (opI 0 (opI 2 a b) c) 0, 0) := by
    simp [binE, evalS, evalAll, mayE, kidsN, leafV, nameV, ofV, bin_2 a b (by omega), bin_0 (opI 2 a b) c (by omega)]
  rw [ev] at ct
  obtain ⟨W, hW⟩ : ∃ W, opI 0 (opI 2 a b) c = W := ⟨_, rfl⟩
  rw [hW] at ct c2 ob
  have hs := w_same (numV W 0) (isV_wf _ 0 (isV_num (isD_whole (by omega)) 0))
  have na := w_law_num a
  have nb := w_law_num b
  have nc := w_law_num c
  have nw := w_law_num W
  simp only [List.map_cons, List.map_nil, encB, encV_mk] at ct na nb nc nw hs
  simp -implicitDefEqProofs [af5, show ¬ a < -1000 by omega, show ¬ a > 1000 by omega, show ¬ b < -1000 by omega, show ¬ b > 1000 by omega, show ¬ c < -1000 by omega, show ¬ c > 1000 by omega, na, nb, nc, nw, ct, c1, c2, hs, w_known, encV_mk, opStr]
theorem w_case21 (a b c : Int) (ha : -1000 ≤ a ∧ a ≤ 1000) (hb : -1000 ≤ b ∧ b ≤ 1000) (hc : -1000 ≤ c ∧ c ≤ 1000) : call A 5 [iv a, iv b, iv c, iv 2, iv 1] [] = some (bv true, []) := by
  refine call_body (af := af5) rfl fnT5 rfl ?_
  have ib := op_bound 2 a b 1000 1000 (by omega) (by omega)
  have ob := op_bound 1 (opI 2 a b) c 1000000 1000 (by have := op_bound 2 a b 1000 1000 (by omega) (by omega); omega) (by omega)
  have c1 := w_law_op 2 a b (by omega) (by omega)
  rw [show ((2 : Nat) : Int) = 2 from rfl] at c1
  have c2 := w_law_op 1 (opI 2 a b) c (by omega) (by omega)
  rw [show ((1 : Nat) : Int) = 1 from rfl] at c2
  have ct := w_told _ _ _ p_21 (by simp [binE, wfE, wfEs, reach]) _ (by simp) (env_ok a b c ha hb hc)
  have ev : evalS [([97], numV a 0), ([98], numV b 0), ([99], numV c 0)] (binE [45] (binE [42] (nameE [97]) (nameE [98])) (nameE [99])) = (numV (opI 1 (opI 2 a b) c) 0, 0) := by
    simp [binE, evalS, evalAll, mayE, kidsN, leafV, nameV, ofV, bin_2 a b (by omega), bin_1 (opI 2 a b) c (by omega)]
  rw [ev] at ct
  obtain ⟨W, hW⟩ : ∃ W, opI 1 (opI 2 a b) c = W := ⟨_, rfl⟩
  rw [hW] at ct c2 ob
  have hs := w_same (numV W 0) (isV_wf _ 0 (isV_num (isD_whole (by omega)) 0))
  have na := w_law_num a
  have nb := w_law_num b
  have nc := w_law_num c
  have nw := w_law_num W
  simp only [List.map_cons, List.map_nil, encB, encV_mk] at ct na nb nc nw hs
  simp -implicitDefEqProofs [af5, show ¬ a < -1000 by omega, show ¬ a > 1000 by omega, show ¬ b < -1000 by omega, show ¬ b > 1000 by omega, show ¬ c < -1000 by omega, show ¬ c > 1000 by omega, na, nb, nc, nw, ct, c1, c2, hs, w_known, encV_mk, opStr]
theorem w_case22 (a b c : Int) (ha : -1000 ≤ a ∧ a ≤ 1000) (hb : -1000 ≤ b ∧ b ≤ 1000) (hc : -1000 ≤ c ∧ c ≤ 1000) : call A 5 [iv a, iv b, iv c, iv 2, iv 2] [] = some (bv true, []) := by
  refine call_body (af := af5) rfl fnT5 rfl ?_
  have ib := op_bound 2 a b 1000 1000 (by omega) (by omega)
  have ob := op_bound 2 (opI 2 a b) c 1000000 1000 (by have := op_bound 2 a b 1000 1000 (by omega) (by omega); omega) (by omega)
  have c1 := w_law_op 2 a b (by omega) (by omega)
  rw [show ((2 : Nat) : Int) = 2 from rfl] at c1
  have c2 := w_law_op 2 (opI 2 a b) c (by omega) (by omega)
  rw [show ((2 : Nat) : Int) = 2 from rfl] at c2
  have ct := w_told _ _ _ p_22 (by simp [binE, wfE, wfEs, reach]) _ (by simp) (env_ok a b c ha hb hc)
  have ev : evalS [([97], numV a 0), ([98], numV b 0), ([99], numV c 0)] (binE [42] (binE [42] (nameE [97]) (nameE [98])) (nameE [99])) = (numV (opI 2 (opI 2 a b) c) 0, 0) := by
    simp [binE, evalS, evalAll, mayE, kidsN, leafV, nameV, ofV, bin_2 a b (by omega), bin_2 (opI 2 a b) c (by omega)]
  rw [ev] at ct
  obtain ⟨W, hW⟩ : ∃ W, opI 2 (opI 2 a b) c = W := ⟨_, rfl⟩
  rw [hW] at ct c2 ob
  have hs := w_same (numV W 0) (isV_wf _ 0 (isV_num (isD_whole (by omega)) 0))
  have na := w_law_num a
  have nb := w_law_num b
  have nc := w_law_num c
  have nw := w_law_num W
  simp only [List.map_cons, List.map_nil, encB, encV_mk] at ct na nb nc nw hs
  simp -implicitDefEqProofs [af5, show ¬ a < -1000 by omega, show ¬ a > 1000 by omega, show ¬ b < -1000 by omega, show ¬ b > 1000 by omega, show ¬ c < -1000 by omega, show ¬ c > 1000 by omega, na, nb, nc, nw, ct, c1, c2, hs, w_known, encV_mk, opStr]
theorem w_EvalArith (a b c p q : Int) (ha : -9223372036854775808 ≤ a ∧ a ≤ 9223372036854775807) (hb : -9223372036854775808 ≤ b ∧ b ≤ 9223372036854775807) (hc : -9223372036854775808 ≤ c ∧ c ≤ 9223372036854775807) (hp : -9223372036854775808 ≤ p ∧ p ≤ 9223372036854775807) (hq : -9223372036854775808 ≤ q ∧ q ≤ 9223372036854775807) :
    call A 5 [iv a, iv b, iv c, iv p, iv q] [] = some (bv true, []) := by
  by_cases h : (-1000 ≤ a ∧ a ≤ 1000) ∧ (-1000 ≤ b ∧ b ≤ 1000) ∧ (-1000 ≤ c ∧ c ≤ 1000) ∧ (0 ≤ p ∧ p ≤ 2) ∧ (0 ≤ q ∧ q ≤ 2)
  · obtain ⟨ha, hb, hc, hp, hq⟩ := h
    have hp : p = 0 ∨ p = 1 ∨ p = 2 := by omega
    have hq : q = 0 ∨ q = 1 ∨ q = 2 := by omega
    rcases hp with rfl | rfl | rfl <;> rcases hq with rfl | rfl | rfl
    · exact w_case00 a b c ha hb hc
    · exact w_case01 a b c ha hb hc
    · exact w_case02 a b c ha hb hc
    · exact w_case10 a b c ha hb hc
    · exact w_case11 a b c ha hb hc
    · exact w_case12 a b c ha hb hc
    · exact w_case20 a b c ha hb hc
    · exact w_case21 a b c ha hb hc
    · exact w_case22 a b c ha hb hc
  · refine call_body (af := af5) rfl fnT5 rfl ?_
    by_cases h1 : a < -1000
    · simp -implicitDefEqProofs [af5, h1]
    by_cases h2 : a > 1000
    · simp -implicitDefEqProofs [af5, h1, h2]
    by_cases h3 : b < -1000
    · simp -implicitDefEqProofs [af5, h1, h2, h3]
    by_cases h4 : b > 1000
    · simp -implicitDefEqProofs [af5, h1, h2, h3, h4]
    by_cases h5 : c < -1000
    · simp -implicitDefEqProofs [af5, h1, h2, h3, h4, h5]
    by_cases h6 : c > 1000
    · simp -implicitDefEqProofs [af5, h1, h2, h3, h4, h5, h6]
    by_cases h7 : p < 0
    · simp -implicitDefEqProofs [af5, h1, h2, h3, h4, h5, h6, h7]
    by_cases h8 : p > 2
    · simp -implicitDefEqProofs [af5, h1, h2, h3, h4, h5, h6, h7, h8]
    by_cases h9 : q < 0
    · simp -implicitDefEqProofs [af5, h1, h2, h3, h4, h5, h6, h7, h8, h9]
    have h10 : q > 2 := by omega
    simp -implicitDefEqProofs [af5, h1, h2, h3, h4, h5, h6, h7, h8, h9, h10]
theorem evalArith_lifted (os : Os) (started : os.Started) (H : Type) (enc : TypeId × Value → H) :
    ReturnsInHanded {} Try.checked os 5 .any (Rows.evalArithSpec.pre6 enc Try.prog Try.f5 Rows.evalArithRow.domain false) (Rows.evalArithSpec.post enc Try.prog Try.f5 false true false false) := by
  refine returnsInHanded_of_change_sized (C := Try.checked) own started (by kernel_rfl) Try.func5
    (ChangeSpec.witness6 (enc := enc) (C := Try.checked) false ⟨#[], #[.int .i64 0, .int .i64 0, .int .i64 0, .int .i64 0, .int .i64 0], []⟩ 8 (by kernel_rfl) (by kernel_rfl) (by kernel_rfl) (by kernel_rfl)) ?_
  intro W base args ds gs before hval0 hW _ hsz0 _
  have hsz : (DataW.weightsEach Try.prog (Try.f5.params.toList ++ Rows.evalArithSpec.plain.varTypes Try.prog) (ds ++ gs)).all (· ≤ reachBytes) = true := hsz0
  have hval : ∀ (j : Nat) t v, Try.f5.params[j]? = some t → args[j]? = some v → Value.okWide Try.prog W .any base t v := hval0
  have hW' := hW
  obtain ⟨p, q, hA0, hV, rfl, hfz, hnd⟩ := hW
  have hA : DataW.TrodAll enc Try.prog W 0 (fun _ => true) true Try.f5.params.toList args.toList ds p := hA0
  rw [Try.params5] at hA hval hsz
  obtain ⟨v0, v1, v2, v3, v4, d0, d1, d2, d3, d4, rfl, rfl⟩ := trodAll_five' hA
  obtain ⟨rfl, rfl⟩ := trodVars_none hV
  obtain ⟨a1, a2⟩ := args_of (base := base) closedS (by simp) (fun j t v h h' => hval j t v (by simpa using h) (by simpa using h')) hA
  obtain ⟨n0, t0⟩ := a2 0 _ _ rfl rfl
  obtain ⟨n1, t1⟩ := a2 1 _ _ rfl rfl
  obtain ⟨n2, t2⟩ := a2 2 _ _ rfl rfl
  obtain ⟨n3, t3⟩ := a2 3 _ _ rfl rfl
  obtain ⟨n4, t4⟩ := a2 4 _ _ rfl rfl
  simp only [List.append_nil, DataW.weightsEach, List.all_append, Bool.and_eq_true, List.cons_append] at hsz
  obtain ⟨a, rfl, w0⟩ := int_of valT.I t0
  obtain ⟨b, rfl, w1⟩ := int_of valT.I t1
  obtain ⟨c, rfl, w2⟩ := int_of valT.I t2
  obtain ⟨p, rfl, w3⟩ := int_of valT.I t3
  obtain ⟨q, rfl, w4⟩ := int_of valT.I t4
  rw [List.zipWith_cons_cons, List.zipWith_cons_cons, List.zipWith_cons_cons, List.zipWith_cons_cons, List.zipWith_cons_cons, List.zipWith_nil_left, argA_int Try.underlying3 (x := .int .i64 a) (by simp [dvOf]), argA_int Try.underlying3 (x := .int .i64 b) (by simp [dvOf]), argA_int Try.underlying3 (x := .int .i64 c) (by simp [dvOf]), argA_int Try.underlying3 (x := .int .i64 p) (by simp [dvOf]), argA_int Try.underlying3 (x := .int .i64 q) (by simp [dvOf])] at a1
  refine (law_walk (fits 5) (w := W) a1 (w_EvalArith a b c p q w0 w1 w2 w3 w4)).mono fun e W' ⟨he, hw⟩ => ?_
  subst he
  exact ⟨_, rfl, post_below laidOut rfl hW' (by rw [Try.params5]; intro t ht; simp at ht; rcases ht with rfl <;> exact ⟨by kernel_rfl, of_decide_eq_true (by kernel_rfl)⟩) hw (tb := 4) rfl Try.underlying4 rfl rfl rfl⟩
/-- EvalArith returns true whatever it is given. -/
theorem evalArith_holds : Rows.EvalArithSaid :=
  OpenClaim.holds_of_wide 5 Try.f5 rfl rfl rfl rfl rfl rfl rfl ⟨rfl, rfl, rfl, rfl, rfl⟩ rfl rfl rfl rfl rfl (by kernel_rfl) Try.func5 (by kernel_rfl)
    (of_decide_eq_true (by kernel_rfl)) (by unfold Func.isWrapper; first | (rw [if_pos (by decide +kernel)]; kernel_rfl) | (rw [if_neg (by decide +kernel)]; exact ⟨rfl, rfl⟩))
    (fun os started H enc _ => evalArith_lifted os started H enc)
end Go.Proofs.Ytkmmfenknekcbaa
