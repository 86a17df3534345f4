/-
  dossierlaw6.EvalRels returns true, whatever its three arguments, and they read as they did.
-/
import Derived.Test.YtkmmfenknekcbaaGreatWRef6a
set_option linter.unusedSimpArgs false
set_option linter.unusedVariables false
set_option maxRecDepth 100000
namespace Go.Proofs.YtkmmfenknekcbaaGreat
open Go Go.Ae Go.Ds Go.RowKit Go.ChangeShapes Go.WideShapes Go.ChangeAt
theorem rel_lt_ge (a b : V) : (relV wLt a b = nullV ∧ relV wGe a b = nullV) ∨ ∃ x, relV wLt a b = truthV x ∧ relV wGe a b = truthV (!x) := by
  unfold relV
  by_cases h : a.k = b.k ∧ (a.k = 2 ∨ a.k = 3)
  · right
    obtain ⟨e, h'⟩ := h
    have h2 : b.k = 2 ∨ b.k = 3 := by rw [← e]; exact h'
    refine ⟨decide (cmpV a b < 0), ?_, ?_⟩
    · simp [e, h2]
    · have : decide (0 ≤ cmpV a b) = !decide (cmpV a b < 0) := by
        rw [Bool.eq_iff_iff]; simp
      simp [e, h2, this]
  · left
    simp [h]
set_option maxHeartbeats 2000000 in
theorem w_EvalRels (op : Str) (a b : V) (ho : op.length ≤ reach) (ha : wfV a) (hb : wfV b) : call A 5 [sv op, .agg (encV a), .agg (encV b)] [] = some (bv true, []) := by
  refine call_body (af := af5) rfl fnT5 rfl ?_
  have ia := w_ref2_Is a ha
  have ib := w_ref2_Is b hb
  by_cases g1 : (op.length : Int) > 20
  · rw [show encV a = encV (.mk a.k a.b a.m a.s a.t a.l) by cases a; rfl, show encV b = encV (.mk b.k b.b b.m b.s b.t b.l) by cases b; rfl, encV_mk, encV_mk]
    simp -implicitDefEqProofs [af5, g1]
  by_cases g2 : (a.l.length : Int) > 20
  · rw [show encV a = encV (.mk a.k a.b a.m a.s a.t a.l) by cases a; rfl, show encV b = encV (.mk b.k b.b b.m b.s b.t b.l) by cases b; rfl, encV_mk, encV_mk]
    simp -implicitDefEqProofs [af5, g1, g2]
  by_cases g3 : (b.l.length : Int) > 20
  · rw [show encV a = encV (.mk a.k a.b a.m a.s a.t a.l) by cases a; rfl, show encV b = encV (.mk b.k b.b b.m b.s b.t b.l) by cases b; rfl, encV_mk, encV_mk]
    simp -implicitDefEqProofs [af5, g1, g2, g3]
  have ea : encV a = encV (.mk a.k a.b a.m a.s a.t a.l) := by cases a; rfl
  have eb : encV b = encV (.mk b.k b.b b.m b.s b.t b.l) := by cases b; rfl
  cases g4 : isV a 0 with
  | false =>
    rw [g4] at ia
    rw [ea, encV_mk] at ia ⊢
    rw [eb, encV_mk]
    simp -implicitDefEqProofs [af5, g1, g2, g3, ia]
  | true =>
    rw [g4] at ia
    cases g5 : isV b 0 with
    | false =>
      rw [g5] at ib
      rw [ea, encV_mk] at ia ⊢
      rw [eb, encV_mk] at ib ⊢
      simp -implicitDefEqProofs [af5, g1, g2, g3, ia, ib]
    | true =>
      rw [g5] at ib
      have r1 := w_ev_Rel wLt a b g4 g5
      have r2 := w_ev_Rel wGe a b g4 g5
      have r3 := w_ev_Rel op a b g4 g5
      have r4 := w_ref6_Rel op a b g4 g5
      have r5 := w_ev_Rel wEq a b g4 g5
      have r6 := w_ev_Rel wNe a b g4 g5
      have s1 := w_same (relV op a b) (isV_wf _ 0 (isV_rel op a b))
      have e5 : relV wEq a b = truthV (decide (cmpV a b = 0)) := by simp [relV]
      have e6 : relV wNe a b = truthV (!decide (cmpV a b = 0)) := by simp [relV]
      have hlg := rel_lt_ge a b
      rw [e5] at r5
      rw [e6] at r6
      rw [ea] at ia
      rw [eb] at ib
      rw [ea, eb] at r1 r2 r3 r4 r5 r6
      rw [ea, eb]
      generalize relV op a b = R at r3 r4 s1
      generalize decide (cmpV a b = 0) = D at r5 r6
      rcases hlg with ⟨h1, h2⟩ | ⟨x, h1, h2⟩
      · rw [h1] at r1
        rw [h2] at r2
        simp only [encV_mk, List.map_nil] at ia ib r1 r2 r3 r4 r5 r6 ⊢
        cases D <;> simp -implicitDefEqProofs [af5, g1, g2, g3, ia, ib, r1, r2, r3, r4, r5, r6, s1, w_known]
      · rw [h1] at r1
        rw [h2] at r2
        simp only [encV_mk, List.map_nil] at ia ib r1 r2 r3 r4 r5 r6 ⊢
        cases D <;> cases x <;> simp -implicitDefEqProofs [af5, g1, g2, g3, ia, ib, r1, r2, r3, r4, r5, r6, s1, w_known]
theorem evalRels_lifted (os : Os) (started : os.Started) (H : Type) (enc : TypeId × Value → H) :
    ReturnsInHanded {} Tryz.checked os 5 .any (Rows.evalRelsSpec.pre6 enc Tryz.prog Tryz.f5 Rows.evalRelsRow.domain false) (Rows.evalRelsSpec.post enc Tryz.prog Tryz.f5 false true false false) := by
  refine returnsInHanded_of_change_sized (C := Tryz.checked) own started (by kernel_rfl) Tryz.func5
    (ChangeSpec.witness6 (enc := enc) (C := Tryz.checked) false ⟨#[], #[.string ⟨#[]⟩, .agg #[.int .i64 0, .bool false, .int .i64 0, .int .i64 0, .string ⟨#[]⟩, .slice none 0 0], .agg #[.int .i64 0, .bool false, .int .i64 0, .int .i64 0, .string ⟨#[]⟩, .slice none 0 0]], []⟩ 8 (by kernel_rfl) (by kernel_rfl) (by kernel_rfl) (by kernel_rfl)) ?_
  intro W base args ds gs before hval0 hW _ hsz0 _
  have hsz : (DataW.weightsEach Tryz.prog (Tryz.f5.params.toList ++ Rows.evalRelsSpec.plain.varTypes Tryz.prog) (ds ++ gs)).all (· ≤ reachBytes) = true := hsz0
  have hval : ∀ (j : Nat) t v, Tryz.f5.params[j]? = some t → args[j]? = some v → Value.okWide Tryz.prog W .any base t v := hval0
  have hW' := hW
  obtain ⟨p, q, hA0, hV, rfl, hfz, hnd⟩ := hW
  have hA : DataW.TrodAll enc Tryz.prog W 0 (fun _ => true) true Tryz.f5.params.toList args.toList ds p := hA0
  rw [Tryz.params5] at hA hval hsz
  obtain ⟨v0, v1, v2, d0, d1, d2, p0, p1, p2, rfl, rfl, rfl, h0, h1, h2⟩ := trodAll_three hA
  obtain ⟨rfl, rfl⟩ := trodVars_none hV
  obtain ⟨a1, a2⟩ := args_of (base := base) closedS (by simp) (fun j t v h h' => hval j t v (by simpa using h) (by simpa using h')) hA
  obtain ⟨n0, t0⟩ := a2 0 _ _ rfl rfl
  obtain ⟨n1, t1⟩ := a2 1 _ _ rfl rfl
  obtain ⟨n2, t2⟩ := a2 2 _ _ rfl rfl
  simp only [List.append_nil, DataW.weightsEach, List.all_append, Bool.and_eq_true, List.cons_append] at hsz
  obtain ⟨op, rfl, w0⟩ := str_of valT.S t0 hsz.1
  obtain ⟨a, e1, w1, _⟩ := val_of valT n1 _ t1 hsz.2.1
  obtain ⟨b, e2, w2, _⟩ := val_of valT n2 _ t2 hsz.2.2.1
  rw [List.zipWith_cons_cons, List.zipWith_cons_cons, List.zipWith_cons_cons, List.zipWith_nil_left, argA_string Tryz.underlying9 (x := .str op) (by simp [dvOf]), argA_struct Tryz.underlying32, e1, argA_struct Tryz.underlying32, e2] at a1
  refine (law_walk (fits 5) (w := W) a1 (w_EvalRels op a b w0 w1 w2)).mono fun e W' ⟨he, hw⟩ => ?_
  subst he
  exact ⟨_, rfl, post_below laidOut rfl hW' (by rw [Tryz.params5]; intro t ht; simp at ht; rcases ht with rfl | rfl <;> exact ⟨by kernel_rfl, of_decide_eq_true (by kernel_rfl)⟩) hw (tb := 4) rfl Tryz.underlying4 rfl rfl rfl⟩
/-- EvalRels returns true whatever it is given. -/
theorem evalRels_holds : Rows.EvalRelsSaid :=
  OpenClaim.holds_of_wide 5 Tryz.f5 rfl rfl rfl rfl rfl rfl rfl ⟨rfl, rfl, rfl, rfl, rfl⟩ rfl rfl rfl rfl rfl (by kernel_rfl) Tryz.func5 (by kernel_rfl)
    (of_decide_eq_true (by kernel_rfl)) (by unfold Func.isWrapper; first | (rw [if_pos (by decide +kernel)]; kernel_rfl) | (rw [if_neg (by decide +kernel)]; exact ⟨rfl, rfl⟩))
    (fun os started H enc _ => evalRels_lifted os started H enc)
end Go.Proofs.YtkmmfenknekcbaaGreat
