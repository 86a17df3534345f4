/-
  dossierlaw6.EvalNames returns true, whatever its two arguments, and they read as they did.
-/
import Derived.Test.YtkmmfenknekcbaaGreatWLaw6
set_option linter.unusedSimpArgs false
set_option linter.unusedVariables false
set_option maxRecDepth 100000
namespace Go.Proofs.YtkmmfenknekcbaaGreat
open Go Go.Ae Go.Ds Go.RowKit Go.ChangeShapes Go.WideShapes Go.ChangeAt
theorem w_EvalNames (env : Ds.Env) (n : Str) (he : wfEnv env) (hn : n.length ≤ reach) : call A 7 [.d (.sl (env.map encB)), sv n] [] = some (bv true, []) := by
  refine call_body (af := af7) rfl fnT7 rfl ?_
  have cm := w_law_may env he
  cases hm : mayEnv env with
  | false =>
    rw [hm] at cm
    simp -implicitDefEqProofs [af7, cm]
  | true =>
    rw [hm] at cm
    obtain ⟨h20, hok⟩ := mayEnv_ok hm
    by_cases h50 : (n.length : Int) > 50
    · simp -implicitDefEqProofs [af7, cm, h50]
    · have ce := w_ev_Eval env (by omega) hok (.mk 5 false 0 0 n false false []) ⟨by omega, by omega, by omega, hn, by simp [reach], trivial⟩
      have ev : evalS env (.mk 5 false 0 0 n false false []) = (nameV n env, 0) := by simp [evalS, mayE, kidsN, leafV]
      rw [ev, encE_mk] at ce
      simp only [List.map_nil] at ce
      have hv := isV_name hok n
      have hs := w_same (nameV n env) (isV_wf _ 0 hv)
      simp -implicitDefEqProofs [af7, cm, h50, ce]
      refine loopW_inv (fun M st => ∃ (i o : Nat), i ≤ env.length ∧ M = env.length - i ∧ st.tm 0 = .d (.sl (env.map encB)) ∧ st.tm 1 = sv n ∧ st.tm 5 = .ptr o 0 ∧ st.ob o = some ((encV (nameV n env)).map .d) ∧ st.tm 6 = iv 0 ∧ st.tm 7 = iv i ∧ nameV n (env.drop i) = nameV n env) ?_ env.length _ ?_
      rotate_left
      · exact ⟨0, 16, by simp⟩
      rintro M st ⟨i, o, hi, rfl, q0, q1, q5, oo, q6, q7, hr⟩ L hL
      by_cases h : i < env.length
      · rw [List.drop_eq_getElem_cons h] at hr
        obtain ⟨x, hx⟩ : ∃ x, env[i] = x := ⟨_, rfl⟩
        rw [hx] at hr
        rcases x with ⟨s, v⟩
        by_cases hsn : s = n
        · subst hsn
          rw [nameV, if_pos rfl] at hr
          rw [← hr] at hs oo
          simp -implicitDefEqProofs [q0, q1, q5, oo, q6, q7, h, hx, encB, hs, w_known]
        · rw [nameV, if_neg hsn] at hr
          simp -implicitDefEqProofs [q0, q1, q5, oo, q6, q7, h, hx, encB, hsn]
          refine hL (env.length - (i + 1)) _ (by omega) ⟨i + 1, o, by omega, rfl, ?_⟩
          simp -implicitDefEqProofs [q0, q1, q5, oo, q6]
          exact ⟨wrapI _ (by omega) (by omega), hr⟩
      · rw [List.drop_of_length_le (by omega), nameV] at hr
        rw [← hr, encV_mk] at oo
        simp -implicitDefEqProofs [q0, q1, q5, oo, q6, q7, h, w_known]
theorem evalNames_lifted (os : Os) (started : os.Started) (H : Type) (enc : TypeId × Value → H) :
    ReturnsInHanded {} Tryz.checked os 7 .any (Rows.evalNamesSpec.pre6 enc Tryz.prog Tryz.f7 Rows.evalNamesRow.domain false) (Rows.evalNamesSpec.post enc Tryz.prog Tryz.f7 false true false false) := by
  refine returnsInHanded_of_change_sized (C := Tryz.checked) own started (by kernel_rfl) Tryz.func7
    (ChangeSpec.witness6 (enc := enc) (C := Tryz.checked) false ⟨#[], #[.slice none 0 0, .string ⟨#[]⟩], []⟩ 8 (by kernel_rfl) (by kernel_rfl) (by kernel_rfl) (by kernel_rfl)) ?_
  intro W base args ds gs before hval0 hW _ hsz0 _
  have hsz : (DataW.weightsEach Tryz.prog (Tryz.f7.params.toList ++ Rows.evalNamesSpec.plain.varTypes Tryz.prog) (ds ++ gs)).all (· ≤ reachBytes) = true := hsz0
  have hval : ∀ (j : Nat) t v, Tryz.f7.params[j]? = some t → args[j]? = some v → Value.okWide Tryz.prog W .any base t v := hval0
  have hW' := hW
  obtain ⟨p, q, hA0, hV, rfl, hfz, hnd⟩ := hW
  have hA : DataW.TrodAll enc Tryz.prog W 0 (fun _ => true) true Tryz.f7.params.toList args.toList ds p := hA0
  rw [Tryz.params7] at hA hval hsz
  obtain ⟨v0, v1, d0, d1, p0, p1, rfl, rfl, rfl, h0, h1⟩ := trodAll_two hA
  obtain ⟨rfl, rfl⟩ := trodVars_none hV
  obtain ⟨a1, a2⟩ := args_of (base := base) closedS (by simp) (fun j t v h h' => hval j t v (by simpa using h) (by simpa using h')) hA
  obtain ⟨n0, t0⟩ := a2 0 _ _ rfl rfl
  obtain ⟨n1, t1⟩ := a2 1 _ _ rfl rfl
  simp only [List.append_nil, DataW.weightsEach, List.all_append, Bool.and_eq_true, List.cons_append] at hsz
  obtain ⟨env, e0, w0⟩ := env_of valT bindT t0 hsz.1
  obtain ⟨n, rfl, w1⟩ := str_of valT.S t1 hsz.2.1
  rw [List.zipWith_cons_cons, List.zipWith_cons_cons, List.zipWith_nil_left, argA_slice Tryz.underlying27 e0, argA_string Tryz.underlying9 (x := .str n) (by simp [dvOf])] at a1
  refine (law_walk (fits 7) (w := W) a1 (w_EvalNames env n w0 w1)).mono fun e W' ⟨he, hw⟩ => ?_
  subst he
  exact ⟨_, rfl, post_below laidOut rfl hW' (by rw [Tryz.params7]; intro t ht; simp at ht; rcases ht with rfl | rfl <;> exact ⟨by kernel_rfl, of_decide_eq_true (by kernel_rfl)⟩) hw (tb := 4) rfl Tryz.underlying4 rfl rfl rfl⟩
/-- EvalNames returns true whatever it is given. -/
theorem evalNames_holds : Rows.EvalNamesSaid :=
  OpenClaim.holds_of_wide 7 Tryz.f7 rfl rfl rfl rfl rfl rfl rfl ⟨rfl, rfl, rfl, rfl, rfl⟩ rfl rfl rfl rfl rfl (by kernel_rfl) Tryz.func7 (by kernel_rfl)
    (of_decide_eq_true (by kernel_rfl)) (by unfold Func.isWrapper; first | (rw [if_pos (by decide +kernel)]; kernel_rfl) | (rw [if_neg (by decide +kernel)]; exact ⟨rfl, rfl⟩))
    (fun os started H enc _ => evalNames_lifted os started H enc)
end Go.Proofs.YtkmmfenknekcbaaGreat
