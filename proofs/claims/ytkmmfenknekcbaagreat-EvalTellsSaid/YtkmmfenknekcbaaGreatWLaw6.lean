/-
  WALKS: what the laws of chapter 6 share: SameVal of one value, may, told, known.
-/
import Derived.Test.YtkmmfenknekcbaaGreatWEval6
import Derived.Test.YtkmmfenknekcbaaGreatAeArg
set_option linter.unusedSimpArgs false
set_option linter.unusedVariables false
set_option maxRecDepth 100000
namespace Go.Proofs.YtkmmfenknekcbaaGreat
open Go Go.Ae Go.Ds Go.RowKit Go.ChangeShapes Go.WideShapes Go.ChangeAt
/-- A value is the same as itself. -/
theorem w_same : ∀ v : V, wfV v → call A 13 [.agg (encV v), .agg (encV v)] [] = some (bv true, []) := by
  intro v
  induction v using V.ind with
  | h k b m s t l ih =>
    rintro ⟨_, _, _, _, hl, hwl⟩
    simp only [reach] at hl
    refine call_body (af := af13) rfl fnT13 rfl ?_
    rw [encV_mk]
    simp -implicitDefEqProofs [af13]
    refine loopW_inv (fun M st => ∃ i : Nat, i ≤ l.length ∧ M = l.length - i ∧ st.tm 2 = .ptr 0 0 ∧ st.tm 3 = .ptr 1 0 ∧ st.tm 5 = iv i ∧ st.ob 0 = some [iv k, bv b, iv m, iv s, sv t, .d (.sl (l.map encV))] ∧ st.ob 1 = some [iv k, bv b, iv m, iv s, sv t, .d (.sl (l.map encV))]) ?_ l.length _ ?_
    rotate_left
    · exact ⟨0, by simp⟩
    rintro M st ⟨i, hi, rfl, q2, q3, q5, o0, o1⟩ L hL
    by_cases h : i < l.length
    · have hm := List.getElem_mem h
      have hc := ih _ hm (wfVs_iff.1 hwl _ hm)
      simp -implicitDefEqProofs [q2, q3, q5, o0, o1, h, hc]
      refine hL (l.length - (i + 1)) _ (by omega) ⟨i + 1, by omega, rfl, ?_⟩
      simp -implicitDefEqProofs [q2, q3, o0, o1]
      exact wrapI _ (by omega) (by omega)
    · simp -implicitDefEqProofs [q2, q3, q5, o0, o1, h]
theorem w_law_num (n : Int) : call A 20 [iv n] [] = some (.agg (encV (numV n 0)), []) := by
  refine call_body (af := af20) rfl fnT20 rfl ?_
  simp -implicitDefEqProofs [af20, encV_mk]
theorem w_told (s : Str) (X : E) (n : Int) (hp : call A 16 [sv s] [] = some (.tup [.agg (encE X), iv n, iv 0], [])) (hX : wfE X) (env : Ds.Env) (hl : env.length ≤ 140737488351232) (hok : okEnv env) :
    call A 21 [sv s, .d (.sl (env.map encB))] [] = some (encR (evalS env X), []) := by
  refine call_body (af := af21) rfl fnT21 rfl ?_
  have he := w_ev_Eval env hl hok X hX
  simp -implicitDefEqProofs [af21, hp, he]
theorem w_known : call A 15 [] [] = some (bv true, []) := call_iff.2 ⟨300, by kernel_rfl⟩
theorem valT : ValT Tryz.prog 32 30 23 3 4 9 where
  V := ⟨_, _, _, _, _, Tryz.underlying32, rfl, rfl, rfl, rfl, rfl⟩
  L := Tryz.underlying30
  D := ⟨_, _, Tryz.underlying23, rfl, rfl⟩
  I := Tryz.underlying3
  B := Tryz.underlying4
  S := Tryz.underlying9
  bytes := by kernel_rfl
theorem expT : ExpT Tryz.prog 26 24 23 3 4 9 where
  E := ⟨_, _, _, _, _, _, _, Tryz.underlying26, rfl, rfl, rfl, rfl, rfl, rfl, rfl⟩
  K := Tryz.underlying24
  bytes := by kernel_rfl
theorem bindT : BindT Tryz.prog 48 32 9 27 where
  B := ⟨_, _, Tryz.underlying48, rfl, rfl⟩
  L := Tryz.underlying27
  bytes := by kernel_rfl
theorem closedS : closedB Tryz.prog [32, 30, 23, 3, 4, 9, 26, 24, 48, 27] = true := by kernel_rfl
/-- May an environment be? -/
def mayEnv (env : Ds.Env) : Bool := decide (env.length ≤ 20) && env.all fun x => decide (x.1.length ≤ 50) && (decide (x.2.l.length ≤ 20) && isV x.2 0)
theorem mayEnv_ok {env : Ds.Env} (h : mayEnv env = true) : env.length ≤ 20 ∧ okEnv env := by
  simp only [mayEnv, Bool.and_eq_true, decide_eq_true_eq, List.all_eq_true] at h
  exact ⟨h.1, fun x hx => (h.2 x hx).2.2⟩
theorem w_law_may (env : Ds.Env) (hw : wfEnv env) : call A 10 [.d (.sl (env.map encB))] [] = some (bv (mayEnv env), []) := by
  refine call_body (af := af10) rfl fnT10 rfl ?_
  obtain ⟨hl, hx⟩ := hw
  simp only [reach] at hl
  unfold mayEnv
  by_cases h20 : (env.length : Int) > 20
  · have h20' : ¬ env.length ≤ 20 := by omega
    simp -implicitDefEqProofs [af10, h20, h20']
  · have h20' : env.length ≤ 20 := by omega
    simp -implicitDefEqProofs [af10, h20]
    refine loopW_inv (fun M st => ∃ i : Nat, i ≤ env.length ∧ M = env.length - i ∧ st.tm 0 = .d (.sl (env.map encB)) ∧ st.tm 3 = iv i ∧
      ((env.drop i).all fun x => decide (x.1.length ≤ 50) && (decide (x.2.l.length ≤ 20) && isV x.2 0)) = (env.all fun x => decide (x.1.length ≤ 50) && (decide (x.2.l.length ≤ 20) && isV x.2 0))) ?_ env.length _ ?_
    rotate_left
    · exact ⟨0, by simp⟩
    rintro M st ⟨i, hi, rfl, q0, q3, hr⟩ L hL
    by_cases h : i < env.length
    · rw [List.drop_eq_getElem_cons h, List.all_cons] at hr
      have hm := hx _ (List.getElem_mem h)
      obtain ⟨x, hx'⟩ : ∃ x, env[i] = x := ⟨_, rfl⟩
      rw [hx'] at hr hm
      rcases x with ⟨n, v⟩
      have ci := w_ref2_Is v hm.2
      have hfalse : (decide (n.length ≤ 50) && (decide (v.l.length ≤ 20) && isV v 0)) = false → (env.all fun x => decide (x.1.length ≤ 50) && (decide (x.2.l.length ≤ 20) && isV x.2 0)) = false := fun h => by
        rw [← hr]
        simp only [h, Bool.false_and]
      by_cases h1 : (n.length : Int) > 50
      · have hf := hfalse (by simp; intro h; omega)
        simp -implicitDefEqProofs only [hf, Bool.and_false]
        simp -implicitDefEqProofs [q0, q3, h, hx', encB, h1]
      · rcases v with ⟨k, b, m, s, t, l⟩
        rw [encV_mk] at ci
        by_cases h2 : (l.length : Int) > 20
        · have a2 : ¬ l.length ≤ 20 := by omega
          have hf := hfalse (by simp [V.l, a2])
          simp -implicitDefEqProofs only [hf, Bool.and_false]
          simp -implicitDefEqProofs [q0, q3, h, hx', encB, encV_mk, h1, h2]
        · cases h3 : isV (.mk k b m s t l) 0 with
          | false =>
            have hf := hfalse (by simp [h3])
            rw [h3] at ci
            simp -implicitDefEqProofs only [hf, Bool.and_false]
            simp -implicitDefEqProofs [q0, q3, h, hx', encB, encV_mk, h1, h2, ci]
          | true =>
            rw [h3] at ci
            obtain ⟨RES, hRES⟩ : ∃ R, (decide (env.length ≤ 20) && (env.all fun x => decide (x.1.length ≤ 50) && (decide (x.2.l.length ≤ 20) && isV x.2 0))) = R := ⟨_, rfl⟩
            rw [hRES] at hL ⊢
            simp -implicitDefEqProofs [q0, q3, h, hx', encB, encV_mk, h1, h2, ci]
            refine hL (env.length - (i + 1)) _ (by omega) ⟨i + 1, by omega, rfl, by simp [q0], ?_, ?_⟩
            · simp -implicitDefEqProofs
              exact wrapI _ (by omega) (by omega)
            · rw [← hr]
              have a1 : n.length ≤ 50 := by omega
              have a2 : l.length ≤ 20 := by omega
              simp [V.l, a1, a2, h3]
    · rw [List.drop_of_length_le (by omega), List.all_nil] at hr
      rw [← hr]
      simp -implicitDefEqProofs [q0, q3, h, h20']
end Go.Proofs.YtkmmfenknekcbaaGreat
