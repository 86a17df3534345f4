/-
  dossierlaw6.EvalWrong returns true, whatever its two arguments, and they read as they did.
-/
import Derived.Test.YtkmmfenknekcbaaWLaw6
set_option linter.unusedSimpArgs false
set_option linter.unusedVariables false
set_option maxRecDepth 100000
namespace Go.Proofs.Ytkmmfenknekcbaa
open Go Go.Ae Go.Ds Go.RowKit Go.ChangeShapes Go.WideShapes Go.ChangeAt
abbrev nameE (t : Str) : E := .mk 5 false 0 0 t false false []
abbrev boolE (b : Bool) : E := .mk 2 b 0 0 [] false false []
abbrev nullE : E := .mk 1 false 0 0 [] false false []
abbrev numE (m : Int) : E := .mk 3 false m 0 [] false false []
abbrev binE (t : Str) (x y : E) : E := .mk 6 false 0 0 t false false [x, y]
def ex0 : E := binE [43] (nameE [118]) (boolE true)
theorem p_0 : call A 15 [sv [118, 32, 43, 32, 116, 114, 117, 101]] [] = some (.tup [.agg (encE ex0), iv 8, iv 0], []) := call_iff.2 ⟨200, by kernel_rfl⟩
theorem wf_0 : wfE ex0 := by simp [ex0, wfE, wfEs, reach]
theorem ev_0 (v : V) (hv : v = nullV ∨ ∃ b, v = truthV b) : evalS [([118], v)] ex0 = (nullV, 0) := by rcases hv with rfl | ⟨b, rfl⟩ <;> rfl
def ex1 : E := binE [42] (nameE [118]) nullE
theorem p_1 : call A 15 [sv [118, 32, 42, 32, 110, 117, 108, 108]] [] = some (.tup [.agg (encE ex1), iv 8, iv 0], []) := call_iff.2 ⟨200, by kernel_rfl⟩
theorem wf_1 : wfE ex1 := by simp [ex1, wfE, wfEs, reach]
theorem ev_1 (v : V) (hv : v = nullV ∨ ∃ b, v = truthV b) : evalS [([118], v)] ex1 = (nullV, 0) := by rcases hv with rfl | ⟨b, rfl⟩ <;> rfl
def ex2 : E := binE [60] (nameE [118]) nullE
theorem p_2 : call A 15 [sv [118, 32, 60, 32, 110, 117, 108, 108]] [] = some (.tup [.agg (encE ex2), iv 8, iv 0], []) := call_iff.2 ⟨200, by kernel_rfl⟩
theorem wf_2 : wfE ex2 := by simp [ex2, wfE, wfEs, reach]
theorem ev_2 (v : V) (hv : v = nullV ∨ ∃ b, v = truthV b) : evalS [([118], v)] ex2 = (nullV, 0) := by rcases hv with rfl | ⟨b, rfl⟩ <;> rfl
def ex3 : E := .mk 7 false 0 0 [] false false [nameE [118]]
theorem p_3 : call A 15 [sv [45, 118]] [] = some (.tup [.agg (encE ex3), iv 2, iv 0], []) := call_iff.2 ⟨200, by kernel_rfl⟩
theorem wf_3 : wfE ex3 := by simp [ex3, wfE, wfEs, reach]
theorem ev_3 (v : V) (hv : v = nullV ∨ ∃ b, v = truthV b) : evalS [([118], v)] ex3 = (nullV, 0) := by rcases hv with rfl | ⟨b, rfl⟩ <;> rfl
def ex4 : E := .mk 10 false 0 0 [97, 98, 115] false false [nameE [118], nameE [118]]
theorem p_4 : call A 15 [sv [97, 98, 115, 40, 118, 44, 32, 118, 41]] [] = some (.tup [.agg (encE ex4), iv 9, iv 0], []) := call_iff.2 ⟨200, by kernel_rfl⟩
theorem wf_4 : wfE ex4 := by simp [ex4, wfE, wfEs, reach]
theorem ev_4 (v : V) (hv : v = nullV ∨ ∃ b, v = truthV b) : evalS [([118], v)] ex4 = (nullV, 0) := by rcases hv with rfl | ⟨b, rfl⟩ <;> rfl
def ex5 : E := .mk 10 false 0 0 [109, 111, 100] false false [nameE [118]]
theorem p_5 : call A 15 [sv [109, 111, 100, 40, 118, 41]] [] = some (.tup [.agg (encE ex5), iv 6, iv 0], []) := call_iff.2 ⟨200, by kernel_rfl⟩
theorem wf_5 : wfE ex5 := by simp [ex5, wfE, wfEs, reach]
theorem ev_5 (v : V) (hv : v = nullV ∨ ∃ b, v = truthV b) : evalS [([118], v)] ex5 = (nullV, 0) := by rcases hv with rfl | ⟨b, rfl⟩ <;> rfl
def ex6 : E := .mk 10 false 0 0 [108, 101, 110] false false [nameE [118]]
theorem p_6 : call A 15 [sv [108, 101, 110, 40, 118, 41]] [] = some (.tup [.agg (encE ex6), iv 6, iv 0], []) := call_iff.2 ⟨200, by kernel_rfl⟩
theorem wf_6 : wfE ex6 := by simp [ex6, wfE, wfEs, reach]
theorem ev_6 (v : V) (hv : v = nullV ∨ ∃ b, v = truthV b) : evalS [([118], v)] ex6 = (nullV, 0) := by rcases hv with rfl | ⟨b, rfl⟩ <;> rfl
def ex7 : E := .mk 10 false 0 0 [99, 111, 117, 110, 116] false false [nameE [118]]
theorem p_7 : call A 15 [sv [99, 111, 117, 110, 116, 40, 118, 41]] [] = some (.tup [.agg (encE ex7), iv 8, iv 0], []) := call_iff.2 ⟨200, by kernel_rfl⟩
theorem wf_7 : wfE ex7 := by simp [ex7, wfE, wfEs, reach]
theorem ev_7 (v : V) (hv : v = nullV ∨ ∃ b, v = truthV b) : evalS [([118], v)] ex7 = (nullV, 0) := by rcases hv with rfl | ⟨b, rfl⟩ <;> rfl
def ex8 : E := .mk 10 false 0 0 [102, 111, 111] false false [nameE [118]]
theorem p_8 : call A 15 [sv [102, 111, 111, 40, 118, 41]] [] = some (.tup [.agg (encE ex8), iv 6, iv 0], []) := call_iff.2 ⟨200, by kernel_rfl⟩
theorem wf_8 : wfE ex8 := by simp [ex8, wfE, wfEs, reach]
theorem ev_8 (v : V) (hv : v = nullV ∨ ∃ b, v = truthV b) : evalS [([118], v)] ex8 = (nullV, 0) := by rcases hv with rfl | ⟨b, rfl⟩ <;> rfl
def ex9 : E := .mk 10 false 0 0 [104, 97, 115] false false [nameE [118], nameE [118]]
theorem p_9 : call A 15 [sv [104, 97, 115, 40, 118, 44, 32, 118, 41]] [] = some (.tup [.agg (encE ex9), iv 9, iv 0], []) := call_iff.2 ⟨200, by kernel_rfl⟩
theorem wf_9 : wfE ex9 := by simp [ex9, wfE, wfEs, reach]
theorem ev_9 (v : V) (hv : v = nullV ∨ ∃ b, v = truthV b) : evalS [([118], v)] ex9 = (nullV, 0) := by rcases hv with rfl | ⟨b, rfl⟩ <;> rfl
def ex10 : E := binE [47] (numE 1) (numE 0)
theorem p_10 : call A 15 [sv [49, 32, 47, 32, 48]] [] = some (.tup [.agg (encE ex10), iv 5, iv 0], []) := call_iff.2 ⟨200, by kernel_rfl⟩
theorem wf_10 : wfE ex10 := by simp [ex10, wfE, wfEs, reach]
theorem ev_10 (v : V) (hv : v = nullV ∨ ∃ b, v = truthV b) : evalS [([118], v)] ex10 = (nullV, 0) := by rcases hv with rfl | ⟨b, rfl⟩ <;> rfl
def ex11 : E := .mk 10 false 0 0 [99, 97, 116] false false []
theorem p_11 : call A 15 [sv [99, 97, 116, 40, 41]] [] = some (.tup [.agg (encE ex11), iv 5, iv 0], []) := call_iff.2 ⟨200, by kernel_rfl⟩
theorem wf_11 : wfE ex11 := by simp [ex11, wfE, wfEs, reach]
theorem ev_11 (v : V) (hv : v = nullV ∨ ∃ b, v = truthV b) : evalS [([118], v)] ex11 = (nullV, 0) := by rcases hv with rfl | ⟨b, rfl⟩ <;> rfl
def ex12 : E := .mk 10 false 0 0 [109, 105, 110] false false []
theorem p_12 : call A 15 [sv [109, 105, 110, 40, 41]] [] = some (.tup [.agg (encE ex12), iv 5, iv 0], []) := call_iff.2 ⟨200, by kernel_rfl⟩
theorem wf_12 : wfE ex12 := by simp [ex12, wfE, wfEs, reach]
theorem ev_12 (v : V) (hv : v = nullV ∨ ∃ b, v = truthV b) : evalS [([118], v)] ex12 = (nullV, 0) := by rcases hv with rfl | ⟨b, rfl⟩ <;> rfl
theorem shape {v : V} (h : isV v 0 = true) (h2 : v.k ≠ 2) (h3 : v.k ≠ 3) (h4 : v.k ≠ 4) : v = nullV ∨ ∃ b, v = truthV b := by
  rcases v with ⟨k, b, m, s, t, l⟩
  simp only [V.k] at h2 h3 h4
  obtain ⟨a1, a2, a3, a4, a5, _⟩ := isV_mk h
  obtain ⟨rfl, rfl⟩ := a2.resolve_left h2
  obtain rfl := a3.resolve_left h3
  obtain rfl := a4.resolve_left h4
  rcases a5 with rfl | rfl | a5 | a5 | a5
  · obtain rfl := a1.resolve_left (by omega)
    exact .inl rfl
  · exact .inr ⟨b, rfl⟩
  · exact absurd a5.1 h2
  · exact absurd a5.1 h3
  · exact absurd a5.1 h4
theorem env_ok (v : V) (h : isV v 0 = true) : okEnv [([118], v)] := by
  intro x hx
  rw [List.mem_singleton.1 hx]
  exact h
theorem w_case0 (v : V) (hi : isV v 0 = true) (hv : v = nullV ∨ ∃ b, v = truthV b) : call A 7 [.agg (encV v), iv 0] [] = some (bv true, []) := by
  refine call_body (af := af7) rfl fnT7 rfl ?_
  have ct := w_told _ _ _ p_0 wf_0 _ (by simp) (env_ok v hi)
  rw [ev_0 v hv] at ct
  have ci := w_ref2_Is v (isV_wf v 0 hi)
  rw [hi] at ci
  rcases hv with rfl | ⟨b, rfl⟩ <;> simp only [List.map_cons, List.map_nil, encB, encV_mk] at ct ci ⊢ <;> simp -implicitDefEqProofs [af7, ct, ci, w_known, encV_mk]
theorem w_case1 (v : V) (hi : isV v 0 = true) (hv : v = nullV ∨ ∃ b, v = truthV b) : call A 7 [.agg (encV v), iv 1] [] = some (bv true, []) := by
  refine call_body (af := af7) rfl fnT7 rfl ?_
  have ct := w_told _ _ _ p_1 wf_1 _ (by simp) (env_ok v hi)
  rw [ev_1 v hv] at ct
  have ci := w_ref2_Is v (isV_wf v 0 hi)
  rw [hi] at ci
  rcases hv with rfl | ⟨b, rfl⟩ <;> simp only [List.map_cons, List.map_nil, encB, encV_mk] at ct ci ⊢ <;> simp -implicitDefEqProofs [af7, ct, ci, w_known, encV_mk]
theorem w_case2 (v : V) (hi : isV v 0 = true) (hv : v = nullV ∨ ∃ b, v = truthV b) : call A 7 [.agg (encV v), iv 2] [] = some (bv true, []) := by
  refine call_body (af := af7) rfl fnT7 rfl ?_
  have ct := w_told _ _ _ p_2 wf_2 _ (by simp) (env_ok v hi)
  rw [ev_2 v hv] at ct
  have ci := w_ref2_Is v (isV_wf v 0 hi)
  rw [hi] at ci
  rcases hv with rfl | ⟨b, rfl⟩ <;> simp only [List.map_cons, List.map_nil, encB, encV_mk] at ct ci ⊢ <;> simp -implicitDefEqProofs [af7, ct, ci, w_known, encV_mk]
theorem w_case3 (v : V) (hi : isV v 0 = true) (hv : v = nullV ∨ ∃ b, v = truthV b) : call A 7 [.agg (encV v), iv 3] [] = some (bv true, []) := by
  refine call_body (af := af7) rfl fnT7 rfl ?_
  have ct := w_told _ _ _ p_3 wf_3 _ (by simp) (env_ok v hi)
  rw [ev_3 v hv] at ct
  have ci := w_ref2_Is v (isV_wf v 0 hi)
  rw [hi] at ci
  rcases hv with rfl | ⟨b, rfl⟩ <;> simp only [List.map_cons, List.map_nil, encB, encV_mk] at ct ci ⊢ <;> simp -implicitDefEqProofs [af7, ct, ci, w_known, encV_mk]
theorem w_case4 (v : V) (hi : isV v 0 = true) (hv : v = nullV ∨ ∃ b, v = truthV b) : call A 7 [.agg (encV v), iv 4] [] = some (bv true, []) := by
  refine call_body (af := af7) rfl fnT7 rfl ?_
  have ct := w_told _ _ _ p_4 wf_4 _ (by simp) (env_ok v hi)
  rw [ev_4 v hv] at ct
  have ci := w_ref2_Is v (isV_wf v 0 hi)
  rw [hi] at ci
  rcases hv with rfl | ⟨b, rfl⟩ <;> simp only [List.map_cons, List.map_nil, encB, encV_mk] at ct ci ⊢ <;> simp -implicitDefEqProofs [af7, ct, ci, w_known, encV_mk]
theorem w_case5 (v : V) (hi : isV v 0 = true) (hv : v = nullV ∨ ∃ b, v = truthV b) : call A 7 [.agg (encV v), iv 5] [] = some (bv true, []) := by
  refine call_body (af := af7) rfl fnT7 rfl ?_
  have ct := w_told _ _ _ p_5 wf_5 _ (by simp) (env_ok v hi)
  rw [ev_5 v hv] at ct
  have ci := w_ref2_Is v (isV_wf v 0 hi)
  rw [hi] at ci
  rcases hv with rfl | ⟨b, rfl⟩ <;> simp only [List.map_cons, List.map_nil, encB, encV_mk] at ct ci ⊢ <;> simp -implicitDefEqProofs [af7, ct, ci, w_known, encV_mk]
theorem w_case6 (v : V) (hi : isV v 0 = true) (hv : v = nullV ∨ ∃ b, v = truthV b) : call A 7 [.agg (encV v), iv 6] [] = some (bv true, []) := by
  refine call_body (af := af7) rfl fnT7 rfl ?_
  have ct := w_told _ _ _ p_6 wf_6 _ (by simp) (env_ok v hi)
  rw [ev_6 v hv] at ct
  have ci := w_ref2_Is v (isV_wf v 0 hi)
  rw [hi] at ci
  rcases hv with rfl | ⟨b, rfl⟩ <;> simp only [List.map_cons, List.map_nil, encB, encV_mk] at ct ci ⊢ <;> simp -implicitDefEqProofs [af7, ct, ci, w_known, encV_mk]
theorem w_case7 (v : V) (hi : isV v 0 = true) (hv : v = nullV ∨ ∃ b, v = truthV b) : call A 7 [.agg (encV v), iv 7] [] = some (bv true, []) := by
  refine call_body (af := af7) rfl fnT7 rfl ?_
  have ct := w_told _ _ _ p_7 wf_7 _ (by simp) (env_ok v hi)
  rw [ev_7 v hv] at ct
  have ci := w_ref2_Is v (isV_wf v 0 hi)
  rw [hi] at ci
  rcases hv with rfl | ⟨b, rfl⟩ <;> simp only [List.map_cons, List.map_nil, encB, encV_mk] at ct ci ⊢ <;> simp -implicitDefEqProofs [af7, ct, ci, w_known, encV_mk]
theorem w_case8 (v : V) (hi : isV v 0 = true) (hv : v = nullV ∨ ∃ b, v = truthV b) : call A 7 [.agg (encV v), iv 8] [] = some (bv true, []) := by
  refine call_body (af := af7) rfl fnT7 rfl ?_
  have ct := w_told _ _ _ p_8 wf_8 _ (by simp) (env_ok v hi)
  rw [ev_8 v hv] at ct
  have ci := w_ref2_Is v (isV_wf v 0 hi)
  rw [hi] at ci
  rcases hv with rfl | ⟨b, rfl⟩ <;> simp only [List.map_cons, List.map_nil, encB, encV_mk] at ct ci ⊢ <;> simp -implicitDefEqProofs [af7, ct, ci, w_known, encV_mk]
theorem w_case9 (v : V) (hi : isV v 0 = true) (hv : v = nullV ∨ ∃ b, v = truthV b) : call A 7 [.agg (encV v), iv 9] [] = some (bv true, []) := by
  refine call_body (af := af7) rfl fnT7 rfl ?_
  have ct := w_told _ _ _ p_9 wf_9 _ (by simp) (env_ok v hi)
  rw [ev_9 v hv] at ct
  have ci := w_ref2_Is v (isV_wf v 0 hi)
  rw [hi] at ci
  rcases hv with rfl | ⟨b, rfl⟩ <;> simp only [List.map_cons, List.map_nil, encB, encV_mk] at ct ci ⊢ <;> simp -implicitDefEqProofs [af7, ct, ci, w_known, encV_mk]
theorem w_case10 (v : V) (hi : isV v 0 = true) (hv : v = nullV ∨ ∃ b, v = truthV b) : call A 7 [.agg (encV v), iv 10] [] = some (bv true, []) := by
  refine call_body (af := af7) rfl fnT7 rfl ?_
  have ct := w_told _ _ _ p_10 wf_10 _ (by simp) (env_ok v hi)
  rw [ev_10 v hv] at ct
  have ci := w_ref2_Is v (isV_wf v 0 hi)
  rw [hi] at ci
  rcases hv with rfl | ⟨b, rfl⟩ <;> simp only [List.map_cons, List.map_nil, encB, encV_mk] at ct ci ⊢ <;> simp -implicitDefEqProofs [af7, ct, ci, w_known, encV_mk]
theorem w_case11 (v : V) (hi : isV v 0 = true) (hv : v = nullV ∨ ∃ b, v = truthV b) : call A 7 [.agg (encV v), iv 11] [] = some (bv true, []) := by
  refine call_body (af := af7) rfl fnT7 rfl ?_
  have ct := w_told _ _ _ p_11 wf_11 _ (by simp) (env_ok v hi)
  rw [ev_11 v hv] at ct
  have ci := w_ref2_Is v (isV_wf v 0 hi)
  rw [hi] at ci
  rcases hv with rfl | ⟨b, rfl⟩ <;> simp only [List.map_cons, List.map_nil, encB, encV_mk] at ct ci ⊢ <;> simp -implicitDefEqProofs [af7, ct, ci, w_known, encV_mk]
theorem w_case12 (v : V) (hi : isV v 0 = true) (hv : v = nullV ∨ ∃ b, v = truthV b) : call A 7 [.agg (encV v), iv 12] [] = some (bv true, []) := by
  refine call_body (af := af7) rfl fnT7 rfl ?_
  have ct := w_told _ _ _ p_12 wf_12 _ (by simp) (env_ok v hi)
  rw [ev_12 v hv] at ct
  have ci := w_ref2_Is v (isV_wf v 0 hi)
  rw [hi] at ci
  rcases hv with rfl | ⟨b, rfl⟩ <;> simp only [List.map_cons, List.map_nil, encB, encV_mk] at ct ci ⊢ <;> simp -implicitDefEqProofs [af7, ct, ci, w_known, encV_mk]
theorem w_EvalWrong (v : V) (k : Int) (hw : wfV v) (hk : -9223372036854775808 ≤ k ∧ k ≤ 9223372036854775807) : call A 7 [.agg (encV v), iv k] [] = some (bv true, []) := by
  by_cases h : v.l.length ≤ 20 ∧ isV v 0 = true ∧ (0 ≤ k ∧ k < 13) ∧ v.k ≠ 2 ∧ v.k ≠ 3 ∧ v.k ≠ 4
  · obtain ⟨_, hi, hk, h2, h3, h4⟩ := h
    have hv := shape hi h2 h3 h4
    have hk' : k = 0 ∨ k = 1 ∨ k = 2 ∨ k = 3 ∨ k = 4 ∨ k = 5 ∨ k = 6 ∨ k = 7 ∨ k = 8 ∨ k = 9 ∨ k = 10 ∨ k = 11 ∨ k = 12 := by omega
    rcases hk' with rfl | rfl | rfl | rfl | rfl | rfl | rfl | rfl | rfl | rfl | rfl | rfl | rfl
    · exact w_case0 v hi hv
    · exact w_case1 v hi hv
    · exact w_case2 v hi hv
    · exact w_case3 v hi hv
    · exact w_case4 v hi hv
    · exact w_case5 v hi hv
    · exact w_case6 v hi hv
    · exact w_case7 v hi hv
    · exact w_case8 v hi hv
    · exact w_case9 v hi hv
    · exact w_case10 v hi hv
    · exact w_case11 v hi hv
    · exact w_case12 v hi hv
  · refine call_body (af := af7) rfl fnT7 rfl ?_
    have ci := w_ref2_Is v hw
    rcases v with ⟨kk, b, m, s, t, l⟩
    simp only [V.l, V.k] at h
    rw [encV_mk] at ci ⊢
    by_cases g1 : (l.length : Int) > 20
    · simp -implicitDefEqProofs [af7, g1]
    cases g2 : isV (.mk kk b m s t l) 0 with
    | false =>
      rw [g2] at ci
      simp -implicitDefEqProofs [af7, g1, ci]
    | true =>
      rw [g2] at ci
      by_cases g3 : k < 0
      · simp -implicitDefEqProofs [af7, g1, ci, g3]
      by_cases g4 : k ≥ 13
      · simp -implicitDefEqProofs [af7, g1, ci, g3, g4]
      by_cases g5 : kk = 2
      · subst g5
        simp -implicitDefEqProofs [af7, g1, ci, g3, g4]
      by_cases g6 : kk = 3
      · subst g6
        simp -implicitDefEqProofs [af7, g1, ci, g3, g4, g5]
      by_cases g7 : kk = 4
      · subst g7
        simp -implicitDefEqProofs [af7, g1, ci, g3, g4, g5, g6]
      · exact absurd ⟨by omega, g2, by omega, g5, g6, g7⟩ h
theorem evalWrong_lifted (os : Os) (started : os.Started) (H : Type) (enc : TypeId × Value → H) :
    ReturnsInHanded {} Try.checked os 7 .any (Rows.evalWrongSpec.pre6 enc Try.prog Try.f7 Rows.evalWrongRow.domain false) (Rows.evalWrongSpec.post enc Try.prog Try.f7 false true false false) := by
  refine returnsInHanded_of_change_sized (C := Try.checked) own started (by kernel_rfl) Try.func7
    (ChangeSpec.witness6 (enc := enc) (C := Try.checked) false ⟨#[], #[.agg #[.int .i64 0, .bool false, .int .i64 0, .int .i64 0, .string ⟨#[]⟩, .slice none 0 0], .int .i64 0], []⟩ 8 (by kernel_rfl) (by kernel_rfl) (by kernel_rfl) (by kernel_rfl)) ?_
  intro W base args ds gs before hval0 hW _ hsz0 _
  have hsz : (DataW.weightsEach Try.prog (Try.f7.params.toList ++ Rows.evalWrongSpec.plain.varTypes Try.prog) (ds ++ gs)).all (· ≤ reachBytes) = true := hsz0
  have hval : ∀ (j : Nat) t v, Try.f7.params[j]? = some t → args[j]? = some v → Value.okWide Try.prog W .any base t v := hval0
  have hW' := hW
  obtain ⟨p, q, hA0, hV, rfl, hfz, hnd⟩ := hW
  have hA : DataW.TrodAll enc Try.prog W 0 (fun _ => true) true Try.f7.params.toList args.toList ds p := hA0
  rw [Try.params7] at hA hval hsz
  obtain ⟨v0, v1, d0, d1, p0, p1, rfl, rfl, rfl, h0, h1⟩ := trodAll_two hA
  obtain ⟨rfl, rfl⟩ := trodVars_none hV
  obtain ⟨a1, a2⟩ := args_of (base := base) closedS (by simp) (fun j t v h h' => hval j t v (by simpa using h) (by simpa using h')) hA
  obtain ⟨n0, t0⟩ := a2 0 _ _ rfl rfl
  obtain ⟨n1, t1⟩ := a2 1 _ _ rfl rfl
  simp only [List.append_nil, DataW.weightsEach, List.all_append, Bool.and_eq_true, List.cons_append] at hsz
  obtain ⟨v, e0, w0, _⟩ := val_of valT n0 _ t0 hsz.1
  obtain ⟨k, rfl, w1⟩ := int_of valT.I t1
  rw [List.zipWith_cons_cons, List.zipWith_cons_cons, List.zipWith_nil_left, argA_struct Try.underlying26, e0, argA_int Try.underlying3 (x := .int .i64 k) (by simp [dvOf])] at a1
  refine (law_walk (fits 7) (w := W) a1 (w_EvalWrong v k w0 w1)).mono fun e W' ⟨he, hw⟩ => ?_
  subst he
  exact ⟨_, rfl, post_below laidOut rfl hW' (by rw [Try.params7]; intro t ht; simp at ht; rcases ht with rfl | rfl <;> exact ⟨by kernel_rfl, of_decide_eq_true (by kernel_rfl)⟩) hw (tb := 4) rfl Try.underlying4 rfl rfl rfl⟩
/-- EvalWrong returns true whatever it is given. -/
theorem evalWrong_holds : Rows.EvalWrongSaid :=
  OpenClaim.holds_of_wide 7 Try.f7 rfl rfl rfl rfl rfl rfl rfl ⟨rfl, rfl, rfl, rfl, rfl⟩ rfl rfl rfl rfl rfl (by kernel_rfl) Try.func7 (by kernel_rfl)
    (of_decide_eq_true (by kernel_rfl)) (by unfold Func.isWrapper; first | (rw [if_pos (by decide +kernel)]; kernel_rfl) | (rw [if_neg (by decide +kernel)]; exact ⟨rfl, rfl⟩))
    (fun os started H enc _ => evalWrong_lifted os started H enc)
end Go.Proofs.Ytkmmfenknekcbaa
