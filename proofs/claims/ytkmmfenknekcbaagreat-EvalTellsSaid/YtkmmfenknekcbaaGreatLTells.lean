/-
  dossierlaw6.EvalTells returns true, whatever its two arguments, and they read as they did.
-/
import Derived.Test.YtkmmfenknekcbaaGreatWRef6g
set_option linter.unusedSimpArgs false
set_option linter.unusedVariables false
set_option maxRecDepth 100000
namespace Go.Proofs.YtkmmfenknekcbaaGreat
open Go Go.Ae Go.Ds Go.RowKit Go.ChangeShapes Go.WideShapes Go.ChangeAt
theorem w_size : ∀ e : E, wfE e → AeEnds (call A 9 [.agg (encE e)] []) fun r => ∃ n, r = (iv n, []) := by
  intro e
  induction e using E.ind with
  | h k b m s t lo hi l ih =>
    rintro ⟨_, _, _, ht, hl, hwl⟩
    simp only [reach] at hl
    refine comes_body (af := af9) rfl fnT9 rfl ?_
    rw [encE_mk]
    simp -implicitDefEqProofs [af9]
    refine loopW_comes (fun M st => ∃ (i : Nat) (n : Int), i ≤ l.length ∧ M = l.length - i ∧ st.tm 1 = .ptr 0 0 ∧ st.tm 3 = iv n ∧ st.tm 4 = iv i ∧ st.ob 0 = some [iv k, bv b, iv m, iv s, sv t, bv lo, bv hi, .d (.sl (l.map encE))]) ?_ l.length _ ?_
    rotate_left
    · exact ⟨0, _, by simp; rfl⟩
    rintro M st ⟨i, n, hi, rfl, q1, q3, q4, o0⟩ L hL
    by_cases h : i < l.length
    · have hv : l[i] ∈ l := List.getElem_mem h
      obtain ⟨_, hc, n', rfl⟩ := ih _ hv (wfEs_iff.1 hwl _ hv)
      by_cases hn : n < 400
      · simp -implicitDefEqProofs [q1, q3, q4, o0, h, hn, hc]
        refine hL (l.length - (i + 1)) _ (by omega) ⟨i + 1, IntKind.wrap .i64 (n + n'), by omega, rfl, ?_⟩
        simp -implicitDefEqProofs [q1, o0]
        exact wrapI _ (by omega) (by omega)
      · simp -implicitDefEqProofs [q1, q3, q4, o0, h, hn]
    · simp -implicitDefEqProofs [q1, q3, q4, o0, h]
set_option maxHeartbeats 1000000 in
theorem w_EvalTells (e : E) (env : Ds.Env) (hx : wfE e) (he : wfEnv env) : call A 3 [.agg (encE e), .d (.sl (env.map encB))] [] = some (bv true, []) := by
  refine call_body (af := af3) rfl fnT3 rfl ?_
  obtain ⟨_, cs, n, rfl⟩ := w_size e hx
  have cm := w_law_may env he
  by_cases hn : n ≥ 400
  · rcases e with ⟨k, b, m, s, t, lo, hi, l⟩
    rw [encE_mk] at cs ⊢
    simp -implicitDefEqProofs [af3, cs, hn]
  cases hm : mayEnv env with
  | false =>
    rw [hm] at cm
    rcases e with ⟨k, b, m, s, t, lo, hi, l⟩
    rw [encE_mk] at cs ⊢
    simp -implicitDefEqProofs [af3, cs, hn, cm]
  | true =>
    rw [hm] at cm
    obtain ⟨h20, hok⟩ := mayEnv_ok hm
    have c1 := w_ev_Eval env (by omega) hok e hx
    have c2 := w_ref6_Eval env (by omega) hok e hx
    have hv := evalS_ok hok e
    obtain ⟨R, hR⟩ : ∃ R, evalS env e = R := ⟨_, rfl⟩
    rw [hR] at c1 c2 hv
    have hs := w_same R.1 (isV_wf _ 0 hv)
    have hi := w_ref2_Is R.1 (isV_wf _ 0 hv)
    rw [hv] at hi
    rcases R with ⟨⟨k', b', m', s', t', l'⟩, f⟩
    rcases e with ⟨k, b, m, s, t, lo, hi', l⟩
    rw [encE_mk] at cs c1 c2 ⊢
    simp only [encV_mk] at c1 c2 hs hi
    simp -implicitDefEqProofs [af3, cs, hn, cm, c1, c2, hs, hi, w_known, encV_mk]
theorem evalTells_lifted (os : Os) (started : os.Started) (H : Type) (enc : TypeId × Value → H) :
    ReturnsInHanded {} Tryz.checked os 3 .any (Rows.evalTellsSpec.pre6 enc Tryz.prog Tryz.f3 Rows.evalTellsRow.domain false) (Rows.evalTellsSpec.post enc Tryz.prog Tryz.f3 false true false false) := by
  refine returnsInHanded_of_change_sized (C := Tryz.checked) own started (by kernel_rfl) Tryz.func3
    (ChangeSpec.witness6 (enc := enc) (C := Tryz.checked) false ⟨#[], #[.agg #[.int .i64 0, .bool false, .int .i64 0, .int .i64 0, .string ⟨#[]⟩, .bool false, .bool false, .slice none 0 0], .slice none 0 0], []⟩ 8 (by kernel_rfl) (by kernel_rfl) (by kernel_rfl) (by kernel_rfl)) ?_
  intro W base args ds gs before hval0 hW _ hsz0 _
  have hsz : (DataW.weightsEach Tryz.prog (Tryz.f3.params.toList ++ Rows.evalTellsSpec.plain.varTypes Tryz.prog) (ds ++ gs)).all (· ≤ reachBytes) = true := hsz0
  have hval : ∀ (j : Nat) t v, Tryz.f3.params[j]? = some t → args[j]? = some v → Value.okWide Tryz.prog W .any base t v := hval0
  have hW' := hW
  obtain ⟨p, q, hA0, hV, rfl, hfz, hnd⟩ := hW
  have hA : DataW.TrodAll enc Tryz.prog W 0 (fun _ => true) true Tryz.f3.params.toList args.toList ds p := hA0
  rw [Tryz.params3] at hA hval hsz
  obtain ⟨v0, v1, d0, d1, p0, p1, rfl, rfl, rfl, h0, h1⟩ := trodAll_two hA
  obtain ⟨rfl, rfl⟩ := trodVars_none hV
  obtain ⟨a1, a2⟩ := args_of (base := base) closedS (by simp) (fun j t v h h' => hval j t v (by simpa using h) (by simpa using h')) hA
  obtain ⟨n0, t0⟩ := a2 0 _ _ rfl rfl
  obtain ⟨n1, t1⟩ := a2 1 _ _ rfl rfl
  simp only [List.append_nil, DataW.weightsEach, List.all_append, Bool.and_eq_true, List.cons_append] at hsz
  obtain ⟨e, e0, w0, _⟩ := exp_of valT expT n0 _ t0 hsz.1
  obtain ⟨env, e1, w1⟩ := env_of valT bindT t1 hsz.2.1
  rw [List.zipWith_cons_cons, List.zipWith_cons_cons, List.zipWith_nil_left, argA_struct Tryz.underlying26, e0, argA_slice Tryz.underlying27 e1] at a1
  refine (law_walk (fits 3) (w := W) a1 (w_EvalTells e env w0 w1)).mono fun e W' ⟨he, hw⟩ => ?_
  subst he
  exact ⟨_, rfl, post_below laidOut rfl hW' (by rw [Tryz.params3]; intro t ht; simp at ht; rcases ht with rfl | rfl <;> exact ⟨by kernel_rfl, of_decide_eq_true (by kernel_rfl)⟩) hw (tb := 4) rfl Tryz.underlying4 rfl rfl rfl⟩
/-- EvalTells returns true whatever it is given. -/
theorem evalTells_holds : Rows.EvalTellsSaid :=
  OpenClaim.holds_of_wide 3 Tryz.f3 rfl rfl rfl rfl rfl rfl rfl ⟨rfl, rfl, rfl, rfl, rfl⟩ rfl rfl rfl rfl rfl (by kernel_rfl) Tryz.func3 (by kernel_rfl)
    (of_decide_eq_true (by kernel_rfl)) (by unfold Func.isWrapper; first | (rw [if_pos (by decide +kernel)]; kernel_rfl) | (rw [if_neg (by decide +kernel)]; exact ⟨rfl, rfl⟩))
    (fun os started H enc _ => evalTells_lifted os started H enc)
end Go.Proofs.YtkmmfenknekcbaaGreat
