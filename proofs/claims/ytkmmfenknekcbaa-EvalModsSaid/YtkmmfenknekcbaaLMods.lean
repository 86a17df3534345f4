/-
  dossierlaw6.EvalMods returns true, whatever its two arguments, and they read as they did.
-/
import Derived.Test.YtkmmfenknekcbaaWLaw6
import Derived.Test.YtkmmfenknekcbaaDsWhole
set_option linter.unusedSimpArgs false
set_option linter.unusedVariables false
set_option maxRecDepth 100000
namespace Go.Proofs.Ytkmmfenknekcbaa
open Go Go.Ae Go.Ds Go.RowKit Go.ChangeShapes Go.WideShapes Go.ChangeAt
abbrev nameE (t : Str) : E := .mk 5 false 0 0 t false false []
theorem wf_name (t : Str) (h : t.length ≤ reach) : wfE (nameE t) := ⟨by omega, by omega, by omega, h, by simp [reach], trivial⟩
theorem p_mod : call A 15 [sv [109, 111, 100, 40, 97, 44, 32, 98, 41]] [] = some (.tup [.agg (encE (.mk 10 false 0 0 [109, 111, 100] false false [nameE [97], nameE [98]])), iv 9, iv 0], []) := call_iff.2 ⟨200, by kernel_rfl⟩
theorem w_EvalMods (a b : Int) (ha : -9223372036854775808 ≤ a ∧ a ≤ 9223372036854775807) (hb : -9223372036854775808 ≤ b ∧ b ≤ 9223372036854775807) : call A 3 [iv a, iv b] [] = some (bv true, []) := by
  refine call_body (af := af3) rfl fnT3 rfl ?_
  by_cases h1 : a < -1000000
  · simp -implicitDefEqProofs [af3, h1]
  by_cases h2 : a > 1000000
  · simp -implicitDefEqProofs [af3, h1, h2]
  by_cases h3 : b < -1000
  · simp -implicitDefEqProofs [af3, h1, h2, h3]
  by_cases h4 : b > 1000
  · simp -implicitDefEqProofs [af3, h1, h2, h3, h4]
  have oa : isV (numV a 0) 0 = true := isV_num (isD_whole (by omega)) 0
  have ob : isV (numV b 0) 0 = true := isV_num (isD_whole (by omega)) 0
  have hok : okEnv [([97], numV a 0), ([98], numV b 0)] := by
    intro x hx
    simp only [List.mem_cons, List.not_mem_nil, or_false] at hx
    rcases hx with rfl | rfl
    · exact oa
    · exact ob
  have ct := w_told _ _ _ p_mod ⟨by omega, by omega, by omega, by simp [reach], by simp [reach], wf_name _ (by simp [reach]), wf_name _ (by simp [reach]), trivial⟩ _ (by simp) hok
  have na := w_law_num a
  have nb := w_law_num b
  by_cases h0 : b = 0
  · subst h0
    have ev : evalS [([97], numV a 0), ([98], numV 0 0)] (.mk 10 false 0 0 [109, 111, 100] false false [nameE [97], nameE [98]]) = (nullV, 0) := by
      simp [evalS, evalAll, mayE, kidsN, leafV, nameV, ofV, callV, twoV, V.k, V.s, V.m]
    rw [ev] at ct
    simp only [List.map_cons, List.map_nil, encB, encV_mk] at ct na nb
    simp -implicitDefEqProofs [af3, h1, h2, ct, na, nb, w_known, encV_mk]
  · have ev : evalS [([97], numV a 0), ([98], numV b 0)] (.mk 10 false 0 0 [109, 111, 100] false false [nameE [97], nameE [98]]) = (numV (modP a b) 0, 0) := by
      simp [evalS, evalAll, mayE, kidsN, leafV, nameV, ofV, callV, twoV, V.k, V.s, V.m, h0]
    rw [ev] at ct
    simp only [List.map_cons, List.map_nil, encB, encV_mk] at ct na nb
    have hr := modP_range a b h0
    have hd : (a - modP a b).tmod b = 0 := by
      have e := Int.mul_tdiv_add_tmod a b
      unfold modP
      split
      · rw [show a - (a.tmod b + b) = b * (a.tdiv b - 1) by rw [Int.mul_sub]; omega]
        exact Int.mul_tmod_right b _
      · rw [show a - a.tmod b = b * a.tdiv b by omega]
        exact Int.mul_tmod_right b _
    obtain ⟨r, hr'⟩ : ∃ r, modP a b = r := ⟨_, rfl⟩
    rw [hr'] at ct hr hd
    by_cases hp : 0 < b
    · by_cases hz : r = 0
      · subst hz
        rw [Int.sub_zero] at hd
        simp -implicitDefEqProofs [af3, h1, h2, h3, h4, h0, ct, na, nb, w_known, encV_mk, wrapI a (by omega) (by omega), hd, wrapI 0 (by omega) (by omega), wrapI (-b) (by omega) (by omega), show ¬ b < -b by omega, hp]
      · simp -implicitDefEqProofs [af3, h1, h2, h3, h4, h0, ct, na, nb, w_known, encV_mk, wrapI (a - r) (by omega) (by omega), hd, wrapI (-r) (by omega) (by omega), wrapI (-b) (by omega) (by omega), hz, show ¬ r < 0 by omega, show ¬ b < 0 by omega,
          show ¬ r < -r by omega, show ¬ b < -b by omega, show r < b by omega]
    · by_cases hz : r = 0
      · subst hz
        rw [Int.sub_zero] at hd
        simp -implicitDefEqProofs [af3, h1, h2, h3, h4, h0, ct, na, nb, w_known, encV_mk, wrapI a (by omega) (by omega), hd, wrapI 0 (by omega) (by omega), wrapI (-b) (by omega) (by omega), show b < -b by omega, show b < 0 by omega]
      · simp -implicitDefEqProofs [af3, h1, h2, h3, h4, h0, ct, na, nb, w_known, encV_mk, wrapI (a - r) (by omega) (by omega), hd, wrapI (-r) (by omega) (by omega), wrapI (-b) (by omega) (by omega), hz, show r < 0 by omega, show b < 0 by omega,
          show r < -r by omega, show b < -b by omega, show b < r by omega]
theorem evalMods_lifted (os : Os) (started : os.Started) (H : Type) (enc : TypeId × Value → H) :
    ReturnsInHanded {} Try.checked os 3 .any (Rows.evalModsSpec.pre6 enc Try.prog Try.f3 Rows.evalModsRow.domain false) (Rows.evalModsSpec.post enc Try.prog Try.f3 false true false false) := by
  refine returnsInHanded_of_change_sized (C := Try.checked) own started (by kernel_rfl) Try.func3
    (ChangeSpec.witness6 (enc := enc) (C := Try.checked) false ⟨#[], #[.int .i64 0, .int .i64 0], []⟩ 8 (by kernel_rfl) (by kernel_rfl) (by kernel_rfl) (by kernel_rfl)) ?_
  intro W base args ds gs before hval0 hW _ hsz0 _
  have hsz : (DataW.weightsEach Try.prog (Try.f3.params.toList ++ Rows.evalModsSpec.plain.varTypes Try.prog) (ds ++ gs)).all (· ≤ reachBytes) = true := hsz0
  have hval : ∀ (j : Nat) t v, Try.f3.params[j]? = some t → args[j]? = some v → Value.okWide Try.prog W .any base t v := hval0
  have hW' := hW
  obtain ⟨p, q, hA0, hV, rfl, hfz, hnd⟩ := hW
  have hA : DataW.TrodAll enc Try.prog W 0 (fun _ => true) true Try.f3.params.toList args.toList ds p := hA0
  rw [Try.params3] at hA hval hsz
  obtain ⟨v0, v1, d0, d1, p0, p1, rfl, rfl, rfl, h0, h1⟩ := trodAll_two hA
  obtain ⟨rfl, rfl⟩ := trodVars_none hV
  obtain ⟨a1, a2⟩ := args_of (base := base) closedS (by simp) (fun j t v h h' => hval j t v (by simpa using h) (by simpa using h')) hA
  obtain ⟨n0, t0⟩ := a2 0 _ _ rfl rfl
  obtain ⟨n1, t1⟩ := a2 1 _ _ rfl rfl
  simp only [List.append_nil, DataW.weightsEach, List.all_append, Bool.and_eq_true, List.cons_append] at hsz
  obtain ⟨a, rfl, w0⟩ := int_of valT.I t0
  obtain ⟨b, rfl, w1⟩ := int_of valT.I t1
  rw [List.zipWith_cons_cons, List.zipWith_cons_cons, List.zipWith_nil_left, argA_int Try.underlying3 (x := .int .i64 a) (by simp [dvOf]), argA_int Try.underlying3 (x := .int .i64 b) (by simp [dvOf])] at a1
  refine (law_walk (fits 3) (w := W) a1 (w_EvalMods a b w0 w1)).mono fun e W' ⟨he, hw⟩ => ?_
  subst he
  exact ⟨_, rfl, post_below laidOut rfl hW' (by rw [Try.params3]; intro t ht; simp at ht; rcases ht with rfl <;> exact ⟨by kernel_rfl, of_decide_eq_true (by kernel_rfl)⟩) hw (tb := 4) rfl Try.underlying4 rfl rfl rfl⟩
/-- EvalMods returns true whatever it is given. -/
theorem evalMods_holds : Rows.EvalModsSaid :=
  OpenClaim.holds_of_wide 3 Try.f3 rfl rfl rfl rfl rfl rfl rfl ⟨rfl, rfl, rfl, rfl, rfl⟩ rfl rfl rfl rfl rfl (by kernel_rfl) Try.func3 (by kernel_rfl)
    (of_decide_eq_true (by kernel_rfl)) (by unfold Func.isWrapper; first | (rw [if_pos (by decide +kernel)]; kernel_rfl) | (rw [if_neg (by decide +kernel)]; exact ⟨rfl, rfl⟩))
    (fun os started H enc _ => evalMods_lifted os started H enc)
end Go.Proofs.Ytkmmfenknekcbaa
