/-
  dossierlaw6.EvalIfs returns true, whatever its three arguments, and they read as they did.
-/
import Derived.Test.YtkmmfenknekcbaaGreatWLaw6
set_option linter.unusedSimpArgs false
set_option linter.unusedVariables false
set_option maxRecDepth 100000
namespace Go.Proofs.YtkmmfenknekcbaaGreat
open Go Go.Ae Go.Ds Go.RowKit Go.ChangeShapes Go.WideShapes Go.ChangeAt
abbrev nameE (t : Str) : E := .mk 5 false 0 0 t false false []
abbrev numE (m : Int) : E := .mk 3 false m 0 [] false false []
abbrev badE : E := .mk 77 false 0 0 [] false false []
abbrev ifE (x y z : E) : E := .mk 8 false 0 0 [] false false [x, y, z]
theorem w_EvalIfs (c : V) (a b : Int) (hc : wfV c) (ha : -9223372036854775808 ≤ a ∧ a ≤ 9223372036854775807) (hb : -9223372036854775808 ≤ b ∧ b ≤ 9223372036854775807) : call A 6 [.agg (encV c), iv a, iv b] [] = some (bv true, []) := by
  refine call_body (af := af6) rfl fnT6 rfl ?_
  have ci := w_ref2_Is c hc
  have cT := w_ref2_Truth c
  have na := w_law_num a
  by_cases g1 : (c.l.length : Int) > 20
  · rcases c with ⟨kk, bb, m, s, t, l⟩
    simp only [V.l] at g1
    rw [encV_mk]
    simp -implicitDefEqProofs [af6, g1]
  cases g2 : isV c 0 with
  | false =>
    rw [g2] at ci
    rcases c with ⟨kk, bb, m, s, t, l⟩
    simp only [V.l] at g1
    rw [encV_mk] at ci ⊢
    simp -implicitDefEqProofs [af6, g1, ci]
  | true =>
    rw [g2] at ci
    by_cases g3 : a < 0
    · rcases c with ⟨kk, bb, m, s, t, l⟩
      simp only [V.l] at g1
      rw [encV_mk] at ci ⊢
      simp -implicitDefEqProofs [af6, g1, ci, g3]
    by_cases g4 : a > 1000
    · rcases c with ⟨kk, bb, m, s, t, l⟩
      simp only [V.l] at g1
      rw [encV_mk] at ci ⊢
      simp -implicitDefEqProofs [af6, g1, ci, g3, g4]
    by_cases g5 : b < 0
    · rcases c with ⟨kk, bb, m, s, t, l⟩
      simp only [V.l] at g1
      rw [encV_mk] at ci ⊢
      simp -implicitDefEqProofs [af6, g1, ci, g3, g4, g5]
    by_cases g6 : b > 1000
    · rcases c with ⟨kk, bb, m, s, t, l⟩
      simp only [V.l] at g1
      rw [encV_mk] at ci ⊢
      simp -implicitDefEqProofs [af6, g1, ci, g3, g4, g5, g6]
    have hD := isD_whole (m := a) (by omega)
    have hok : okEnv [([99], c)] := by
      intro x hx
      rw [List.mem_singleton.1 hx]
      exact g2
    have w1 : wfE (ifE (nameE [99]) (numE a) badE) := by simp [wfE, wfEs, reach]; omega
    have w2 : wfE (ifE (nameE [99]) badE (numE a)) := by simp [wfE, wfEs, reach]; omega
    have c1 := w_ev_Eval _ (by simp) hok _ w1
    have c2 := w_ev_Eval _ (by simp) hok _ w2
    have e1 : evalS [([99], c)] (ifE (nameE [99]) (numE a) badE) = if isTru c then (numV a 0, 0) else (nullV, 1) := by
      simp [evalS, evalIf, mayE, kidsN, leafV, nameV, hD]
    have e2 : evalS [([99], c)] (ifE (nameE [99]) badE (numE a)) = if isTru c then (nullV, 1) else (numV a 0, 0) := by
      simp [evalS, evalIf, mayE, kidsN, leafV, nameV, hD]
    rw [e1] at c1
    rw [e2] at c2
    have hs := w_same (numV a 0) (isV_wf _ 0 (isV_num hD 0))
    simp only [encE_mk, List.map_cons, List.map_nil, encB] at c1 c2
    cases g7 : isTru c with
    | true =>
      rw [g7] at cT
      simp only [g7, if_true] at c1 c2
      rcases c with ⟨kk, bb, m, s, t, l⟩
      simp only [V.l] at g1
      simp only [encV_mk, List.map_nil] at ci cT c1 c2 hs na ⊢
      simp -implicitDefEqProofs [af6, g1, ci, g3, g4, g5, g6, cT, c1, c2, hs, na, w_known, encV_mk]
    | false =>
      rw [g7] at cT
      simp only [g7, Bool.false_eq_true, if_false] at c1 c2
      rcases c with ⟨kk, bb, m, s, t, l⟩
      simp only [V.l] at g1
      simp only [encV_mk, List.map_nil] at ci cT c1 c2 hs na ⊢
      simp -implicitDefEqProofs [af6, g1, ci, g3, g4, g5, g6, cT, c1, c2, hs, na, w_known, encV_mk]
theorem evalIfs_lifted (os : Os) (started : os.Started) (H : Type) (enc : TypeId × Value → H) :
    ReturnsInHanded {} Tryz.checked os 6 .any (Rows.evalIfsSpec.pre6 enc Tryz.prog Tryz.f6 Rows.evalIfsRow.domain false) (Rows.evalIfsSpec.post enc Tryz.prog Tryz.f6 false true false false) := by
  refine returnsInHanded_of_change_sized (C := Tryz.checked) own started (by kernel_rfl) Tryz.func6
    (ChangeSpec.witness6 (enc := enc) (C := Tryz.checked) false ⟨#[], #[.agg #[.int .i64 0, .bool false, .int .i64 0, .int .i64 0, .string ⟨#[]⟩, .slice none 0 0], .int .i64 0, .int .i64 0], []⟩ 8 (by kernel_rfl) (by kernel_rfl) (by kernel_rfl) (by kernel_rfl)) ?_
  intro W base args ds gs before hval0 hW _ hsz0 _
  have hsz : (DataW.weightsEach Tryz.prog (Tryz.f6.params.toList ++ Rows.evalIfsSpec.plain.varTypes Tryz.prog) (ds ++ gs)).all (· ≤ reachBytes) = true := hsz0
  have hval : ∀ (j : Nat) t v, Tryz.f6.params[j]? = some t → args[j]? = some v → Value.okWide Tryz.prog W .any base t v := hval0
  have hW' := hW
  obtain ⟨p, q, hA0, hV, rfl, hfz, hnd⟩ := hW
  have hA : DataW.TrodAll enc Tryz.prog W 0 (fun _ => true) true Tryz.f6.params.toList args.toList ds p := hA0
  rw [Tryz.params6] at hA hval hsz
  obtain ⟨v0, v1, v2, d0, d1, d2, p0, p1, p2, rfl, rfl, rfl, h0, h1, h2⟩ := trodAll_three hA
  obtain ⟨rfl, rfl⟩ := trodVars_none hV
  obtain ⟨a1, a2⟩ := args_of (base := base) closedS (by simp) (fun j t v h h' => hval j t v (by simpa using h) (by simpa using h')) hA
  obtain ⟨n0, t0⟩ := a2 0 _ _ rfl rfl
  obtain ⟨n1, t1⟩ := a2 1 _ _ rfl rfl
  obtain ⟨n2, t2⟩ := a2 2 _ _ rfl rfl
  simp only [List.append_nil, DataW.weightsEach, List.all_append, Bool.and_eq_true, List.cons_append] at hsz
  obtain ⟨c, e0, w0, _⟩ := val_of valT n0 _ t0 hsz.1
  obtain ⟨a, rfl, w1⟩ := int_of valT.I t1
  obtain ⟨b, rfl, w2⟩ := int_of valT.I t2
  rw [List.zipWith_cons_cons, List.zipWith_cons_cons, List.zipWith_cons_cons, List.zipWith_nil_left, argA_struct Tryz.underlying32, e0, argA_int Tryz.underlying3 (x := .int .i64 a) (by simp [dvOf]), argA_int Tryz.underlying3 (x := .int .i64 b) (by simp [dvOf])] at a1
  refine (law_walk (fits 6) (w := W) a1 (w_EvalIfs c a b w0 w1 w2)).mono fun e W' ⟨he, hw⟩ => ?_
  subst he
  exact ⟨_, rfl, post_below laidOut rfl hW' (by rw [Tryz.params6]; intro t ht; simp at ht; rcases ht with rfl | rfl <;> exact ⟨by kernel_rfl, of_decide_eq_true (by kernel_rfl)⟩) hw (tb := 4) rfl Tryz.underlying4 rfl rfl rfl⟩
/-- EvalIfs returns true whatever it is given. -/
theorem evalIfs_holds : Rows.EvalIfsSaid :=
  OpenClaim.holds_of_wide 6 Tryz.f6 rfl rfl rfl rfl rfl rfl rfl ⟨rfl, rfl, rfl, rfl, rfl⟩ rfl rfl rfl rfl rfl (by kernel_rfl) Tryz.func6 (by kernel_rfl)
    (of_decide_eq_true (by kernel_rfl)) (by unfold Func.isWrapper; first | (rw [if_pos (by decide +kernel)]; kernel_rfl) | (rw [if_neg (by decide +kernel)]; exact ⟨rfl, rfl⟩))
    (fun os started H enc _ => evalIfs_lifted os started H enc)
end Go.Proofs.YtkmmfenknekcbaaGreat
