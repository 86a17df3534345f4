/-
  WALKS: what the laws of chapter 6 share: SameVal of one value, may, told, known.
-/
import Derived.Test.YtkmmfenknekcbaaWEval6
import Derived.Test.YtkmmfenknekcbaaAeArg
set_option linter.unusedSimpArgs false
set_option linter.unusedVariables false
set_option maxRecDepth 100000
namespace Go.Proofs.Ytkmmfenknekcbaa
open Go Go.Ae Go.Ds Go.RowKit Go.ChangeShapes Go.WideShapes Go.ChangeAt
/-- A value is the same as itself. -/
theorem w_same : ∀ v : V, wfV v → call A 12 [.agg (encV v), .agg (encV v)] [] = some (bv true, []) := by
  intro v
  induction v using V.ind with
  | h k b m s t l ih =>
    rintro ⟨_, _, _, _, hl, hwl⟩
    simp only [reach] at hl
    refine call_body (af := af12) rfl fnT12 rfl ?_
    rw [encV_mk]
    simp -implicitDefEqProofs [af12]
    refine loopW_inv (fun M st => ∃ i : Nat, i ≤ l.length ∧ M = l.length - i ∧ st.tm 2 = .ptr 0 0 ∧ st.tm 3 = .ptr 1 0 ∧ st.tm 5 = iv i ∧ st.ob 0 = some [iv k, bv b, iv m, iv s, sv t, .d (.sl (l.map encV))] ∧ st.ob 1 = some [iv k, bv b, iv m, iv s, sv t, .d (.sl (l.map encV))]) ?_ l.length _ ?_
    rotate_left
    · exact ⟨0, by simp⟩
    rintro M st ⟨i, hi, rfl, q2, q3, q5, o0, o1⟩ L hL
    by_cases h : i < l.length
    · have hm := List.getElem_mem h
      have hc := ih _ hm (wfVs_iff.1 hwl _ hm)
      simp -implicitDefEqProofs [q2, q3, q5, o0, o1, h, hc]
      refine hL (l.length - (i + 1)) _ (by omega) ⟨i + 1, by omega, rfl, ?_⟩
      simp -implicitDefEqProofs [q2, q3, o0, o1]
      exact wrapI _ (by omega) (by omega)
    · simp -implicitDefEqProofs [q2, q3, q5, o0, o1, h]
theorem w_law_num (n : Int) : call A 8 [iv n] [] = some (.agg (encV (numV n 0)), []) := by
  refine call_body (af := af8) rfl fnT8 rfl ?_
  simp -implicitDefEqProofs [af8, encV_mk]
theorem w_told (s : Str) (X : E) (n : Int) (hp : call A 15 [sv s] [] = some (.tup [.agg (encE X), iv n, iv 0], [])) (hX : wfE X) (env : Ds.Env) (hl : env.length ≤ 140737488351232) (hok : okEnv env) :
    call A 9 [sv s, .d (.sl (env.map encB))] [] = some (encR (evalS env X), []) := by
  refine call_body (af := af9) rfl fnT9 rfl ?_
  have he := w_ev_Eval env hl hok X hX
  simp -implicitDefEqProofs [af9, hp, he]
theorem w_known : call A 10 [] [] = some (bv true, []) := call_iff.2 ⟨300, by kernel_rfl⟩
theorem valT : ValT Try.prog 26 24 23 3 4 9 where
  V := ⟨_, _, _, _, _, Try.underlying26, rfl, rfl, rfl, rfl, rfl⟩
  L := Try.underlying24
  D := ⟨_, _, Try.underlying23, rfl, rfl⟩
  I := Try.underlying3
  B := Try.underlying4
  S := Try.underlying9
  bytes := by kernel_rfl
theorem expT : ExpT Try.prog 39 37 23 3 4 9 where
  E := ⟨_, _, _, _, _, _, _, Try.underlying39, rfl, rfl, rfl, rfl, rfl, rfl, rfl⟩
  K := Try.underlying37
  bytes := by kernel_rfl
theorem bindT : BindT Try.prog 29 26 9 30 where
  B := ⟨_, _, Try.underlying29, rfl, rfl⟩
  L := Try.underlying30
  bytes := by kernel_rfl
theorem closedS : closedB Try.prog [26, 24, 23, 3, 4, 9, 39, 37, 29, 30] = true := by kernel_rfl
end Go.Proofs.Ytkmmfenknekcbaa
