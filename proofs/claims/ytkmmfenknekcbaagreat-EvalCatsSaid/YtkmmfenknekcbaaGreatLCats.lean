/-
  dossierlaw6.EvalCats returns true, whatever its two arguments, and they read as they did.
-/
import Derived.Test.YtkmmfenknekcbaaGreatWLaw6
set_option linter.unusedSimpArgs false
set_option linter.unusedVariables false
set_option maxRecDepth 100000
namespace Go.Proofs.YtkmmfenknekcbaaGreat
open Go Go.Ae Go.Ds Go.RowKit Go.ChangeShapes Go.WideShapes Go.ChangeAt
abbrev nameE (t : Str) : E := .mk 5 false 0 0 t false false []
abbrev binE (t : Str) (x y : E) : E := .mk 6 false 0 0 t false false [x, y]
abbrev callE (t : Str) (l : List E) : E := .mk 10 false 0 0 t false false l
theorem p_plus : call A 16 [sv [97, 32, 43, 32, 98]] [] = some (.tup [.agg (encE (binE [43] (nameE [97]) (nameE [98]))), iv 5, iv 0], []) := call_iff.2 ⟨200, by kernel_rfl⟩
theorem p_cat : call A 16 [sv [99, 97, 116, 40, 97, 44, 32, 98, 41]] [] = some (.tup [.agg (encE (callE [99, 97, 116] [nameE [97], nameE [98]])), iv 9, iv 0], []) := call_iff.2 ⟨200, by kernel_rfl⟩
theorem p_len : call A 16 [sv [108, 101, 110, 40, 97, 41]] [] = some (.tup [.agg (encE (callE [108, 101, 110] [nameE [97]])), iv 6, iv 0], []) := call_iff.2 ⟨200, by kernel_rfl⟩
theorem strMax : IntKind.i64.max = 9223372036854775807 := by decide
theorem wf_textV {t : Str} (h : t.length ≤ reach) : wfV (textV t) := ⟨by omega, by omega, by omega, h, by simp [reach], trivial⟩
theorem isV_textV (t : Str) : isV (textV t) 0 = isT t := by simp [isV, isVs, bare]
theorem w_EvalCats (a b : Str) (ha : a.length ≤ reach) (hb : b.length ≤ reach) : call A 8 [sv a, sv b] [] = some (bv true, []) := by
  refine call_body (af := af8) rfl fnT8 rfl ?_
  have ia := w_ref2_Is (textV a) (wf_textV ha)
  have ib := w_ref2_Is (textV b) (wf_textV hb)
  rw [isV_textV] at ia ib
  have hw : -9223372036854775808 ≤ (a.length : Int) + b.length ∧ (a.length : Int) + b.length ≤ 9223372036854775807 := by simp only [reach] at ha hb; omega
  simp only [encV_mk, List.map_nil] at ia ib
  by_cases g1 : (a.length : Int) + b.length > 100
  · simp -implicitDefEqProofs [af8, wrapI _ hw.1 hw.2, g1]
  cases g2 : isT a with
  | false =>
    rw [g2] at ia
    simp -implicitDefEqProofs [af8, wrapI _ hw.1 hw.2, g1, ia]
  | true =>
    rw [g2] at ia
    cases g3 : isT b with
    | false =>
      rw [g3] at ib
      simp -implicitDefEqProofs [af8, wrapI _ hw.1 hw.2, g1, ia, ib]
    | true =>
      rw [g3] at ib
      have hok : okEnv [([97], textV a), ([98], textV b)] := by
        intro x hx
        simp only [List.mem_cons, List.not_mem_nil, or_false] at hx
        rcases hx with rfl | rfl
        · exact isV_text g2 0
        · exact isV_text g3 0
      have c1 := w_told _ _ _ p_plus (by simp [wfE, wfEs, reach]) _ (by simp) hok
      have c2 := w_told _ _ _ p_cat (by simp [wfE, wfEs, reach]) _ (by simp) hok
      have c3 := w_told _ _ _ p_len (by simp [wfE, wfEs, reach]) _ (by simp) hok
      have e1 : evalS [([97], textV a), ([98], textV b)] (binE [43] (nameE [97]) (nameE [98])) = catV (a ++ b) := by
        simp [evalS, evalAll, mayE, kidsN, leafV, nameV, ofV, binV, V.k, V.t]
      have e2 : evalS [([97], textV a), ([98], textV b)] (callE [99, 97, 116] [nameE [97], nameE [98]]) = catV (a ++ b) := by
        simp [evalS, evalAll, mayE, kidsN, leafV, nameV, ofV, callV, allK, catAll, V.k, V.t]
      have e3 : evalS [([97], textV a), ([98], textV b)] (callE [108, 101, 110] [nameE [97]]) = (numV a.length 0, 0) := by
        simp [evalS, evalAll, mayE, kidsN, leafV, nameV, ofV, callV, oneV, V.k, V.t]
      rw [e1] at c1
      rw [e2] at c2
      rw [e3] at c3
      have nl := w_law_num a.length
      have hsl := w_same (numV a.length 0) (isV_wf _ 0 (isV_num (isD_whole (by omega)) 0))
      simp only [List.map_cons, List.map_nil, encB, encV_mk] at c1 c2 c3 nl hsl
      have hcat : ¬ ((a.length : Int) + b.length > 9223372036854775807) := by omega
      by_cases g4 : (a.length : Int) + b.length > 16
      · have ec : catV (a ++ b) = (nullV, 3) := by
          unfold catV
          rw [if_pos (by rw [List.length_append]; omega)]
        rw [ec] at c1 c2
        simp -implicitDefEqProofs [af8, wrapI _ hw.1 hw.2, g1, ia, ib, c1, c2, c3, nl, hsl, g4, w_known, encV_mk]
      · have ec : catV (a ++ b) = (textV (a ++ b), 0) := by
          unfold catV
          rw [if_neg (by rw [List.length_append]; omega)]
        rw [ec] at c1 c2
        have hst := w_same (textV (a ++ b)) (wf_textV (by rw [List.length_append]; simp only [reach]; omega))
        simp only [encV_mk, List.map_nil] at hst
        simp -implicitDefEqProofs [af8, wrapI _ hw.1 hw.2, g1, ia, ib, c1, c2, c3, nl, hsl, hst, g4, w_known, encV_mk, strMax, hcat]
theorem evalCats_lifted (os : Os) (started : os.Started) (H : Type) (enc : TypeId × Value → H) :
    ReturnsInHanded {} Tryz.checked os 8 .any (Rows.evalCatsSpec.pre6 enc Tryz.prog Tryz.f8 Rows.evalCatsRow.domain false) (Rows.evalCatsSpec.post enc Tryz.prog Tryz.f8 false true false false) := by
  refine returnsInHanded_of_change_sized (C := Tryz.checked) own started (by kernel_rfl) Tryz.func8
    (ChangeSpec.witness6 (enc := enc) (C := Tryz.checked) false ⟨#[], #[.string ⟨#[]⟩, .string ⟨#[]⟩], []⟩ 8 (by kernel_rfl) (by kernel_rfl) (by kernel_rfl) (by kernel_rfl)) ?_
  intro W base args ds gs before hval0 hW _ hsz0 _
  have hsz : (DataW.weightsEach Tryz.prog (Tryz.f8.params.toList ++ Rows.evalCatsSpec.plain.varTypes Tryz.prog) (ds ++ gs)).all (· ≤ reachBytes) = true := hsz0
  have hval : ∀ (j : Nat) t v, Tryz.f8.params[j]? = some t → args[j]? = some v → Value.okWide Tryz.prog W .any base t v := hval0
  have hW' := hW
  obtain ⟨p, q, hA0, hV, rfl, hfz, hnd⟩ := hW
  have hA : DataW.TrodAll enc Tryz.prog W 0 (fun _ => true) true Tryz.f8.params.toList args.toList ds p := hA0
  rw [Tryz.params8] at hA hval hsz
  obtain ⟨v0, v1, d0, d1, p0, p1, rfl, rfl, rfl, h0, h1⟩ := trodAll_two hA
  obtain ⟨rfl, rfl⟩ := trodVars_none hV
  obtain ⟨a1, a2⟩ := args_of (base := base) closedS (by simp) (fun j t v h h' => hval j t v (by simpa using h) (by simpa using h')) hA
  obtain ⟨n0, t0⟩ := a2 0 _ _ rfl rfl
  obtain ⟨n1, t1⟩ := a2 1 _ _ rfl rfl
  simp only [List.append_nil, DataW.weightsEach, List.all_append, Bool.and_eq_true, List.cons_append] at hsz
  obtain ⟨a, rfl, w0⟩ := str_of valT.S t0 hsz.1
  obtain ⟨b, rfl, w1⟩ := str_of valT.S t1 hsz.2.1
  rw [List.zipWith_cons_cons, List.zipWith_cons_cons, List.zipWith_nil_left, argA_string Tryz.underlying9 (x := .str a) (by simp [dvOf]), argA_string Tryz.underlying9 (x := .str b) (by simp [dvOf])] at a1
  refine (law_walk (fits 8) (w := W) a1 (w_EvalCats a b w0 w1)).mono fun e W' ⟨he, hw⟩ => ?_
  subst he
  exact ⟨_, rfl, post_below laidOut rfl hW' (by rw [Tryz.params8]; intro t ht; simp at ht; rcases ht with rfl <;> exact ⟨by kernel_rfl, of_decide_eq_true (by kernel_rfl)⟩) hw (tb := 4) rfl Tryz.underlying4 rfl rfl rfl⟩
/-- EvalCats returns true whatever it is given. -/
theorem evalCats_holds : Rows.EvalCatsSaid :=
  OpenClaim.holds_of_wide 8 Tryz.f8 rfl rfl rfl rfl rfl rfl rfl ⟨rfl, rfl, rfl, rfl, rfl⟩ rfl rfl rfl rfl rfl (by kernel_rfl) Tryz.func8 (by kernel_rfl)
    (of_decide_eq_true (by kernel_rfl)) (by unfold Func.isWrapper; first | (rw [if_pos (by decide +kernel)]; kernel_rfl) | (rw [if_neg (by decide +kernel)]; exact ⟨rfl, rfl⟩))
    (fun os started H enc _ => evalCats_lifted os started H enc)
end Go.Proofs.YtkmmfenknekcbaaGreat
